/-
  DERIVED. GIVEN WITH THE SEED: THE CARDS: each row of YtkkjjbejkcgmfaaDoorRows.lean that lists a variable, with what it lists TIED to the program's text (the seventh form; the later family's looks); each row that meets fmt, with fmt's text TOLD by the authors' own Lean function (tested against real Go, not proved from fmt's source: count such statements apart). THE CARD IS WHAT COUNTS. Prove the row's statement (the work); the ties are given (YtkkjjbejkcgmfaaDoorTie.lean); close each card by the builder's one call (the guide's Derived/Test/ToyasCard.lean, 'card_holds'). Laid BY PROGRAM, IN A SANDBOX (cutbox-door.mjs). By AI agents, Wed Nov 11 2026. No macro, syntax, notation, axiom, sorry.
-/
import Derived.Test.YtkkjjbejkcgmfaaDoorRows
import GoSem.ClaimSeven
namespace Go.Proofs.YtkkjjbejkcgmfaaDoor
namespace Rows

/-- THE TIED CARD OF 'nestboxlaw.PathsOrder'. -/
def pathsOrderCard : Claim7 := { stood := { row := pathsOrderRow, standIns := [], harness := (true, "b5b83ba6a3f5e3443c55e69f453275393448c99113ef2f8d6153e9f43c6c082b"), looks := false }, kinds := [], alts := [], laidByText := true, laidKinds := [.data, .pinned], laidTests := true, laidLooks := .later }
def PathsOrderCardSaid : Prop := Claim7.holds Tryd.pinned (.plain (OpenSpec.ofChange pathsOrderSpec)) pathsOrderCard

/-- THE TIED CARD OF 'nestboxlaw.PathsDoes'. -/
def pathsDoesCard : Claim7 := { stood := { row := pathsDoesRow, standIns := [], harness := (true, "b5b83ba6a3f5e3443c55e69f453275393448c99113ef2f8d6153e9f43c6c082b"), looks := false }, kinds := [], alts := [], laidByText := true, laidKinds := [.data, .pinned], laidTests := true, laidLooks := .later }
def PathsDoesCardSaid : Prop := Claim7.holds Tryd.pinned (.plain (OpenSpec.ofChange pathsDoesSpec)) pathsDoesCard

/-- THE TIED CARD OF 'nestboxlaw.PathsBack'. -/
def pathsBackCard : Claim7 := { stood := { row := pathsBackRow, standIns := [], harness := (true, "b5b83ba6a3f5e3443c55e69f453275393448c99113ef2f8d6153e9f43c6c082b"), looks := false }, kinds := [], alts := [], laidByText := true, laidKinds := [.data, .pinned], laidTests := true, laidLooks := .later }
def PathsBackCardSaid : Prop := Claim7.holds Tryd.pinned (.plain (OpenSpec.ofChange pathsBackSpec)) pathsBackCard

/-- THE SECOND FORM's CARD OF 'nestboxlaw.PathsOrder'. -/
def pathsOrderUptoCard : Claim7 := { stood := { row := pathsOrderUptoRow, standIns := [], harness := (true, "b5b83ba6a3f5e3443c55e69f453275393448c99113ef2f8d6153e9f43c6c082b"), looks := false }, kinds := [], alts := [], laidByText := true, laidKinds := [.data, .pinned], laidTests := true, laidLooks := .later }
def PathsOrderUptoCardSaid : Prop := Claim7.holds Tryd.pinned (.plain (OpenSpec.upto pathsOrderSpec)) pathsOrderUptoCard

/-- THE SECOND FORM's CARD OF 'nestboxlaw.PathsDoes'. -/
def pathsDoesUptoCard : Claim7 := { stood := { row := pathsDoesUptoRow, standIns := [], harness := (true, "b5b83ba6a3f5e3443c55e69f453275393448c99113ef2f8d6153e9f43c6c082b"), looks := false }, kinds := [], alts := [], laidByText := true, laidKinds := [.data, .pinned], laidTests := true, laidLooks := .later }
def PathsDoesUptoCardSaid : Prop := Claim7.holds Tryd.pinned (.plain (OpenSpec.upto pathsDoesSpec)) pathsDoesUptoCard

/-- THE SECOND FORM's CARD OF 'nestboxlaw.PathsBack'. -/
def pathsBackUptoCard : Claim7 := { stood := { row := pathsBackUptoRow, standIns := [], harness := (true, "b5b83ba6a3f5e3443c55e69f453275393448c99113ef2f8d6153e9f43c6c082b"), looks := false }, kinds := [], alts := [], laidByText := true, laidKinds := [.data, .pinned], laidTests := true, laidLooks := .later }
def PathsBackUptoCardSaid : Prop := Claim7.holds Tryd.pinned (.plain (OpenSpec.upto pathsBackSpec)) pathsBackUptoCard
end Rows
end Go.Proofs.YtkkjjbejkcgmfaaDoor
