/-
  DERIVED. GIVEN WITH THE SEED: THE CARDS: each row of YtfcpmapfhgibpaaGreatDoorRows.lean that lists a variable, with what it lists TIED to the program's text (the seventh form; the later family's looks); each row that meets fmt, with fmt's text TOLD by the authors' own Lean function (tested against real Go, not proved from fmt's source: count such statements apart). THE CARD IS WHAT COUNTS. Prove the row's statement (the work); the ties are given (YtfcpmapfhgibpaaGreatDoorTie.lean); close each card by the builder's one call (the guide's Derived/Test/ToyasCard.lean, 'card_holds'). Laid BY PROGRAM, IN A SANDBOX (cutbox-door.mjs). By AI agents, Wed Nov 11 2026. No macro, syntax, notation, axiom, sorry.
-/
import Derived.Test.YtfcpmapfhgibpaaGreatDoorRows
import GoSem.ClaimSeven
namespace Go.Proofs.YtfcpmapfhgibpaaGreatDoor
namespace Rows

/-- THE TIED CARD OF 'timesynclaw41.BoundaryPlays'. -/
def boundaryPlaysCard : Claim7 := { stood := { row := boundaryPlaysRow, standIns := [], harness := (true, "aa9757566f337b007d6c7cad91aac73f575c36c7d3424f34e7f469b91106db54"), looks := false }, kinds := [], alts := [], laidByText := true, laidKinds := [.data, .data], laidTests := true, laidLooks := .later }
def BoundaryPlaysCardSaid : Prop := Claim7.holds Tryz.pinned (.plain (OpenSpec.ofChange boundaryPlaysSpec)) boundaryPlaysCard

/-- THE SECOND FORM's CARD OF 'timesynclaw41.BoundaryPlays'. -/
def boundaryPlaysUptoCard : Claim7 := { stood := { row := boundaryPlaysUptoRow, standIns := [], harness := (true, "aa9757566f337b007d6c7cad91aac73f575c36c7d3424f34e7f469b91106db54"), looks := false }, kinds := [], alts := [], laidByText := true, laidKinds := [.data, .data], laidTests := true, laidLooks := .later }
def BoundaryPlaysUptoCardSaid : Prop := Claim7.holds Tryz.pinned (.plain (OpenSpec.upto boundaryPlaysSpec)) boundaryPlaysUptoCard
end Rows
end Go.Proofs.YtfcpmapfhgibpaaGreatDoor
