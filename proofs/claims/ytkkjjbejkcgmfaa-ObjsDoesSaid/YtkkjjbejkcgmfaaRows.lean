/-
  No cell of these rows narrows 'for every input' (looked for: loops, veiled, ifaces, maps, wideKeys, modest, calm, conditions, laid).
  DERIVED. THE GIVEN ROWS OF THIS SEAT. 9 by the template 'for every input the law returns true; each argument reads behind the call as it read before'; 0 by the template 'total and deterministic' (their statements: YtkkjjbejkcgmfaaTotals.lean).
  GIVEN WITH THE SEED: the statements are not yours to turn. If you find one false, say at which input.
  Laid BY PROGRAM, IN A SANDBOX (cutbox-rows.mjs): the forced cells as the released guide's own fill.sh prints them over the translation e7cb6242be9bdb20… (all of the seat's roots in one cut). By AI agents, Wed Nov 11 2026. No macro, syntax, notation, axiom, sorry.
-/
import Derived.Test.YtkkjjbejkcgmfaaChecked
import GoSem.Claim
import GoSem.ClaimJoined
import GoSem.ClaimMapViews
import Derived.JoinedTies
import Derived.KernelRfl
namespace Go.Proofs.Ytkkjjbejkcgmfaa
/- THE CELL 'sum', in the pinned program and in every row, IS THE sha256 OF THE DUMP (.gsa) THAT YtkkjjbejkcgmfaaProg.lean LOADS. Nothing in Lean hashes anything: it is a label: what it is worth is what the hold of that sum in a sandbox is worth. -/
noncomputable def Try.pinned : Pinned := { name := "ytkkjjbejkcgmfaa", sum := "e7cb6242be9bdb20c802c7888fe423cab00726f42b559b9740ff93e6e1852027", checked := Try.checked }
namespace Rows
def none {H : Type} : Left H := { results := [], args := [] }

/-- 'nestboxlaw.LinesDoes': WHATEVER THE INPUT: true; the input reads as it did. -/
def linesDoesSpec : ChangeSpec := { name := "linesDoes", fn := fun _ => fun
  | [d1, d2, d3, d4] => { results := [.lit (.bool true)], args := [d1, d2, d3, d4] }
  | _ => none }
def linesDoesRow : OpenClaim := { program := "ytkkjjbejkcgmfaa", sum := "e7cb6242be9bdb20c802c7888fe423cab00726f42b559b9740ff93e6e1852027", func := "nestbox/nestboxlaw.LinesDoes", spec := "linesDoes", inPlace := ["internal/bytealg.IndexByte"], unfollowed := true, recurses := true, apart := false }
def LinesDoesSaid : Prop := linesDoesRow.holds Try.pinned (OpenSpec.ofChange linesDoesSpec)

/-- ITS FALSE NEIGHBOUR: 'it returns false'. Refute it at one input. -/
def linesDoesWrong : ChangeSpec := { name := "linesDoes", fn := fun _ => fun
  | [d1, d2, d3, d4] => { results := [.lit (.bool false)], args := [d1, d2, d3, d4] }
  | _ => none }
def LinesDoesWrongFalsely : Prop := linesDoesRow.holds Try.pinned (OpenSpec.ofChange linesDoesWrong)

/-- 'nestboxlaw.LinesCommon': WHATEVER THE INPUT: true; the input reads as it did. -/
def linesCommonSpec : ChangeSpec := { name := "linesCommon", fn := fun _ => fun
  | [d1, d2] => { results := [.lit (.bool true)], args := [d1, d2] }
  | _ => none }
def linesCommonRow : OpenClaim := { program := "ytkkjjbejkcgmfaa", sum := "e7cb6242be9bdb20c802c7888fe423cab00726f42b559b9740ff93e6e1852027", func := "nestbox/nestboxlaw.LinesCommon", spec := "linesCommon", inPlace := ["internal/bytealg.IndexByte"], unfollowed := true, recurses := true, apart := false }
def LinesCommonSaid : Prop := linesCommonRow.holds Try.pinned (OpenSpec.ofChange linesCommonSpec)

/-- ITS FALSE NEIGHBOUR: 'it returns false'. Refute it at one input. -/
def linesCommonWrong : ChangeSpec := { name := "linesCommon", fn := fun _ => fun
  | [d1, d2] => { results := [.lit (.bool false)], args := [d1, d2] }
  | _ => none }
def LinesCommonWrongFalsely : Prop := linesCommonRow.holds Try.pinned (OpenSpec.ofChange linesCommonWrong)

/-- 'nestboxlaw.LinesSides': WHATEVER THE INPUT: true; the input reads as it did. -/
def linesSidesSpec : ChangeSpec := { name := "linesSides", fn := fun _ => fun
  | [d1, d2, d3] => { results := [.lit (.bool true)], args := [d1, d2, d3] }
  | _ => none }
def linesSidesRow : OpenClaim := { program := "ytkkjjbejkcgmfaa", sum := "e7cb6242be9bdb20c802c7888fe423cab00726f42b559b9740ff93e6e1852027", func := "nestbox/nestboxlaw.LinesSides", spec := "linesSides", inPlace := ["internal/bytealg.IndexByte"], unfollowed := true, recurses := true, apart := false }
def LinesSidesSaid : Prop := linesSidesRow.holds Try.pinned (OpenSpec.ofChange linesSidesSpec)

/-- ITS FALSE NEIGHBOUR: 'it returns false'. Refute it at one input. -/
def linesSidesWrong : ChangeSpec := { name := "linesSides", fn := fun _ => fun
  | [d1, d2, d3] => { results := [.lit (.bool false)], args := [d1, d2, d3] }
  | _ => none }
def LinesSidesWrongFalsely : Prop := linesSidesRow.holds Try.pinned (OpenSpec.ofChange linesSidesWrong)

/-- 'nestboxlaw.LinesBack': WHATEVER THE INPUT: true; the input reads as it did. -/
def linesBackSpec : ChangeSpec := { name := "linesBack", fn := fun _ => fun
  | [d] => { results := [.lit (.bool true)], args := [d] }
  | _ => none }
def linesBackRow : OpenClaim := { program := "ytkkjjbejkcgmfaa", sum := "e7cb6242be9bdb20c802c7888fe423cab00726f42b559b9740ff93e6e1852027", func := "nestbox/nestboxlaw.LinesBack", spec := "linesBack", inPlace := ["internal/bytealg.IndexByte"], unfollowed := true, recurses := true, apart := false }
def LinesBackSaid : Prop := linesBackRow.holds Try.pinned (OpenSpec.ofChange linesBackSpec)

/-- ITS FALSE NEIGHBOUR: 'it returns false'. Refute it at one input. -/
def linesBackWrong : ChangeSpec := { name := "linesBack", fn := fun _ => fun
  | [d] => { results := [.lit (.bool false)], args := [d] }
  | _ => none }
def LinesBackWrongFalsely : Prop := linesBackRow.holds Try.pinned (OpenSpec.ofChange linesBackWrong)

/-- 'nestboxlaw.ObjsBack': WHATEVER THE INPUT: true; the input reads as it did. -/
def objsBackSpec : ChangeSpec := { name := "objsBack", fn := fun _ => fun
  | [d1, d2, d3] => { results := [.lit (.bool true)], args := [d1, d2, d3] }
  | _ => none }
def objsBackRow : OpenClaim := { program := "ytkkjjbejkcgmfaa", sum := "e7cb6242be9bdb20c802c7888fe423cab00726f42b559b9740ff93e6e1852027", func := "nestbox/nestboxlaw.ObjsBack", spec := "objsBack", unfollowed := true, recurses := true, apart := false }
def ObjsBackSaid : Prop := objsBackRow.holds Try.pinned (OpenSpec.ofChange objsBackSpec)

/-- ITS FALSE NEIGHBOUR: 'it returns false'. Refute it at one input. -/
def objsBackWrong : ChangeSpec := { name := "objsBack", fn := fun _ => fun
  | [d1, d2, d3] => { results := [.lit (.bool false)], args := [d1, d2, d3] }
  | _ => none }
def ObjsBackWrongFalsely : Prop := objsBackRow.holds Try.pinned (OpenSpec.ofChange objsBackWrong)

/-- 'nestboxlaw.PoolDoes': WHATEVER THE INPUT: true; the input reads as it did. -/
def poolDoesSpec : ChangeSpec := { name := "poolDoes", fn := fun _ => fun
  | [d1, d2] => { results := [.lit (.bool true)], args := [d1, d2] }
  | _ => none }
def poolDoesRow : OpenClaim := { program := "ytkkjjbejkcgmfaa", sum := "e7cb6242be9bdb20c802c7888fe423cab00726f42b559b9740ff93e6e1852027", func := "nestbox/nestboxlaw.PoolDoes", spec := "poolDoes", unfollowed := true, recurses := true, apart := false }
def PoolDoesSaid : Prop := poolDoesRow.holds Try.pinned (OpenSpec.ofChange poolDoesSpec)

/-- ITS FALSE NEIGHBOUR: 'it returns false'. Refute it at one input. -/
def poolDoesWrong : ChangeSpec := { name := "poolDoes", fn := fun _ => fun
  | [d1, d2] => { results := [.lit (.bool false)], args := [d1, d2] }
  | _ => none }
def PoolDoesWrongFalsely : Prop := poolDoesRow.holds Try.pinned (OpenSpec.ofChange poolDoesWrong)

/-- 'nestboxlaw.PoolApart': WHATEVER THE INPUT: true; the input reads as it did. -/
def poolApartSpec : ChangeSpec := { name := "poolApart", fn := fun _ => fun
  | [d] => { results := [.lit (.bool true)], args := [d] }
  | _ => none }
def poolApartRow : OpenClaim := { program := "ytkkjjbejkcgmfaa", sum := "e7cb6242be9bdb20c802c7888fe423cab00726f42b559b9740ff93e6e1852027", func := "nestbox/nestboxlaw.PoolApart", spec := "poolApart", unfollowed := true, recurses := true, apart := false }
def PoolApartSaid : Prop := poolApartRow.holds Try.pinned (OpenSpec.ofChange poolApartSpec)

/-- ITS FALSE NEIGHBOUR: 'it returns false'. Refute it at one input. -/
def poolApartWrong : ChangeSpec := { name := "poolApart", fn := fun _ => fun
  | [d] => { results := [.lit (.bool false)], args := [d] }
  | _ => none }
def PoolApartWrongFalsely : Prop := poolApartRow.holds Try.pinned (OpenSpec.ofChange poolApartWrong)

/-- 'nestboxlaw.PoolReach': WHATEVER THE INPUT: true; the input reads as it did. -/
def poolReachSpec : ChangeSpec := { name := "poolReach", fn := fun _ => fun
  | [d1, d2] => { results := [.lit (.bool true)], args := [d1, d2] }
  | _ => none }
def poolReachRow : OpenClaim := { program := "ytkkjjbejkcgmfaa", sum := "e7cb6242be9bdb20c802c7888fe423cab00726f42b559b9740ff93e6e1852027", func := "nestbox/nestboxlaw.PoolReach", spec := "poolReach", unfollowed := true, recurses := true, apart := false }
def PoolReachSaid : Prop := poolReachRow.holds Try.pinned (OpenSpec.ofChange poolReachSpec)

/-- ITS FALSE NEIGHBOUR: 'it returns false'. Refute it at one input. -/
def poolReachWrong : ChangeSpec := { name := "poolReach", fn := fun _ => fun
  | [d1, d2] => { results := [.lit (.bool false)], args := [d1, d2] }
  | _ => none }
def PoolReachWrongFalsely : Prop := poolReachRow.holds Try.pinned (OpenSpec.ofChange poolReachWrong)

/-- 'nestboxlaw.ObjsDoes': WHATEVER THE INPUT: true; the input reads as it did. -/
def objsDoesSpec : ChangeSpec := { name := "objsDoes", fn := fun _ => fun
  | [d1, d2, d3] => { results := [.lit (.bool true)], args := [d1, d2, d3] }
  | _ => none }
def objsDoesRow : OpenClaim := { program := "ytkkjjbejkcgmfaa", sum := "e7cb6242be9bdb20c802c7888fe423cab00726f42b559b9740ff93e6e1852027", func := "nestbox/nestboxlaw.ObjsDoes", spec := "objsDoes", unfollowed := true, recurses := true, apart := false }
def ObjsDoesSaid : Prop := objsDoesRow.holds Try.pinned (OpenSpec.ofChange objsDoesSpec)

/-- ITS FALSE NEIGHBOUR: 'it returns false'. Refute it at one input. -/
def objsDoesWrong : ChangeSpec := { name := "objsDoes", fn := fun _ => fun
  | [d1, d2, d3] => { results := [.lit (.bool false)], args := [d1, d2, d3] }
  | _ => none }
def ObjsDoesWrongFalsely : Prop := objsDoesRow.holds Try.pinned (OpenSpec.ofChange objsDoesWrong)

/- THE SECOND FORM. 'bulk': how many values and letters a reading holds, each counted each time it is reached (what is shared counts as often as it is met; a slice's spare places count too). A statement '..UptoSaid' is the law's where the arguments, and the package variables that the reading takes, are together of bulk at most 1048576: NARROWER than '..Said'. Prove '..Said' where nothing that the law and all that it calls make is longer than what came in: it says more and counts as full. Else prove '..UptoSaid'. A law counts once. -/
mutual
def uptoBulk {H : Type} : DataW H → Nat
  | .lit (.string bytes) => bytes.length + 1
  | .lit _ => 1
  | .nil => 1
  | .ptr d => uptoBulk d + 1
  | .slice elems spare => uptoBulkAll elems + uptoBulkAll spare + 1
  | .agg parts => uptoBulkAll parts + 1
  | .iface _ d => uptoBulk d + 1
  | .map entries => uptoBulkEntries entries + 1
  | .held _ => 1
def uptoBulkAll {H : Type} : List (DataW H) → Nat
  | [] => 0
  | d :: r => uptoBulk d + uptoBulkAll r
def uptoBulkEntries {H : Type} : List (Lit × DataW H) → Nat
  | [] => 0
  | x :: r => uptoBulkEntry x + uptoBulkEntries r
def uptoBulkEntry {H : Type} : Lit × DataW H → Nat
  | (.string bytes, d) => bytes.length + uptoBulk d + 1
  | (_, d) => uptoBulk d + 1
 end
def uptoSmall : (H : Type) → List (DataW H) → Bool := fun _ ds => decide (uptoBulkAll ds ≤ 1048576)
def OpenSpec.upto (s : _root_.Go.ChangeSpec) : _root_.Go.OpenSpec := { _root_.Go.OpenSpec.ofChange s with cond := some uptoSmall }

/-- 'nestboxlaw.LinesDoes', WHERE WHAT IT READS IS OF BULK AT MOST 1048576: true; the input reads as it did. -/
def linesDoesUptoRow : OpenClaim := { program := "ytkkjjbejkcgmfaa", sum := "e7cb6242be9bdb20c802c7888fe423cab00726f42b559b9740ff93e6e1852027", func := "nestbox/nestboxlaw.LinesDoes", spec := "linesDoes", inPlace := ["internal/bytealg.IndexByte"], unfollowed := true, recurses := true, apart := false, narrowed := true }
def LinesDoesUptoSaid : Prop := linesDoesUptoRow.holds Try.pinned (OpenSpec.upto linesDoesSpec)

/-- 'nestboxlaw.LinesCommon', WHERE WHAT IT READS IS OF BULK AT MOST 1048576: true; the input reads as it did. -/
def linesCommonUptoRow : OpenClaim := { program := "ytkkjjbejkcgmfaa", sum := "e7cb6242be9bdb20c802c7888fe423cab00726f42b559b9740ff93e6e1852027", func := "nestbox/nestboxlaw.LinesCommon", spec := "linesCommon", inPlace := ["internal/bytealg.IndexByte"], unfollowed := true, recurses := true, apart := false, narrowed := true }
def LinesCommonUptoSaid : Prop := linesCommonUptoRow.holds Try.pinned (OpenSpec.upto linesCommonSpec)

/-- 'nestboxlaw.LinesSides', WHERE WHAT IT READS IS OF BULK AT MOST 1048576: true; the input reads as it did. -/
def linesSidesUptoRow : OpenClaim := { program := "ytkkjjbejkcgmfaa", sum := "e7cb6242be9bdb20c802c7888fe423cab00726f42b559b9740ff93e6e1852027", func := "nestbox/nestboxlaw.LinesSides", spec := "linesSides", inPlace := ["internal/bytealg.IndexByte"], unfollowed := true, recurses := true, apart := false, narrowed := true }
def LinesSidesUptoSaid : Prop := linesSidesUptoRow.holds Try.pinned (OpenSpec.upto linesSidesSpec)

/-- 'nestboxlaw.LinesBack', WHERE WHAT IT READS IS OF BULK AT MOST 1048576: true; the input reads as it did. -/
def linesBackUptoRow : OpenClaim := { program := "ytkkjjbejkcgmfaa", sum := "e7cb6242be9bdb20c802c7888fe423cab00726f42b559b9740ff93e6e1852027", func := "nestbox/nestboxlaw.LinesBack", spec := "linesBack", inPlace := ["internal/bytealg.IndexByte"], unfollowed := true, recurses := true, apart := false, narrowed := true }
def LinesBackUptoSaid : Prop := linesBackUptoRow.holds Try.pinned (OpenSpec.upto linesBackSpec)

/-- 'nestboxlaw.ObjsBack', WHERE WHAT IT READS IS OF BULK AT MOST 1048576: true; the input reads as it did. -/
def objsBackUptoRow : OpenClaim := { program := "ytkkjjbejkcgmfaa", sum := "e7cb6242be9bdb20c802c7888fe423cab00726f42b559b9740ff93e6e1852027", func := "nestbox/nestboxlaw.ObjsBack", spec := "objsBack", unfollowed := true, recurses := true, apart := false, narrowed := true }
def ObjsBackUptoSaid : Prop := objsBackUptoRow.holds Try.pinned (OpenSpec.upto objsBackSpec)

/-- 'nestboxlaw.PoolDoes', WHERE WHAT IT READS IS OF BULK AT MOST 1048576: true; the input reads as it did. -/
def poolDoesUptoRow : OpenClaim := { program := "ytkkjjbejkcgmfaa", sum := "e7cb6242be9bdb20c802c7888fe423cab00726f42b559b9740ff93e6e1852027", func := "nestbox/nestboxlaw.PoolDoes", spec := "poolDoes", unfollowed := true, recurses := true, apart := false, narrowed := true }
def PoolDoesUptoSaid : Prop := poolDoesUptoRow.holds Try.pinned (OpenSpec.upto poolDoesSpec)

/-- 'nestboxlaw.PoolApart', WHERE WHAT IT READS IS OF BULK AT MOST 1048576: true; the input reads as it did. -/
def poolApartUptoRow : OpenClaim := { program := "ytkkjjbejkcgmfaa", sum := "e7cb6242be9bdb20c802c7888fe423cab00726f42b559b9740ff93e6e1852027", func := "nestbox/nestboxlaw.PoolApart", spec := "poolApart", unfollowed := true, recurses := true, apart := false, narrowed := true }
def PoolApartUptoSaid : Prop := poolApartUptoRow.holds Try.pinned (OpenSpec.upto poolApartSpec)

/-- 'nestboxlaw.PoolReach', WHERE WHAT IT READS IS OF BULK AT MOST 1048576: true; the input reads as it did. -/
def poolReachUptoRow : OpenClaim := { program := "ytkkjjbejkcgmfaa", sum := "e7cb6242be9bdb20c802c7888fe423cab00726f42b559b9740ff93e6e1852027", func := "nestbox/nestboxlaw.PoolReach", spec := "poolReach", unfollowed := true, recurses := true, apart := false, narrowed := true }
def PoolReachUptoSaid : Prop := poolReachUptoRow.holds Try.pinned (OpenSpec.upto poolReachSpec)

/-- 'nestboxlaw.ObjsDoes', WHERE WHAT IT READS IS OF BULK AT MOST 1048576: true; the input reads as it did. -/
def objsDoesUptoRow : OpenClaim := { program := "ytkkjjbejkcgmfaa", sum := "e7cb6242be9bdb20c802c7888fe423cab00726f42b559b9740ff93e6e1852027", func := "nestbox/nestboxlaw.ObjsDoes", spec := "objsDoes", unfollowed := true, recurses := true, apart := false, narrowed := true }
def ObjsDoesUptoSaid : Prop := objsDoesUptoRow.holds Try.pinned (OpenSpec.upto objsDoesSpec)

end Rows
end Go.Proofs.Ytkkjjbejkcgmfaa
