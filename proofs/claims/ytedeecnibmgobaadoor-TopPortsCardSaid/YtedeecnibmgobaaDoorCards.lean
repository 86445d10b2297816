/-
  DERIVED. GIVEN WITH THE SEED: THE CARDS: each row of YtedeecnibmgobaaDoorRows.lean that lists a variable, with what it lists TIED to the program's text (the seventh form; the later family's looks); each row that meets fmt, with fmt's text TOLD by the authors' own Lean function (tested against real Go, not proved from fmt's source: count such statements apart). THE CARD IS WHAT COUNTS. Prove the row's statement (the work); the ties are given (YtedeecnibmgobaaDoorTie.lean); close each card by the builder's one call (the guide's Derived/Test/ToyasCard.lean, 'card_holds'). Laid BY PROGRAM, IN A SANDBOX (cutbox-door.mjs). By AI agents, Wed Nov 11 2026. No macro, syntax, notation, axiom, sorry.
-/
import Derived.Test.YtedeecnibmgobaaDoorRows
import GoSem.ClaimSeven
namespace Go.Proofs.YtedeecnibmgobaaDoor
namespace Rows

/-- THE TIED CARD OF 'timesynctop.TopPorts'. -/
def topPortsCard : Claim7 := { stood := { row := topPortsRow, standIns := [], harness := (true, "384f2f6efe34a11c27f24d1f7572e864922f004e79e07bba0c8a72344efc95be"), looks := false }, kinds := [], alts := [], laidByText := true, laidKinds := [.data, .data], laidTests := true, laidLooks := .later }
def TopPortsCardSaid : Prop := Claim7.holds Tryd.pinned (.plain (OpenSpec.ofChange topPortsSpec)) topPortsCard

/-- THE SECOND FORM's CARD OF 'timesynctop.TopPorts'. -/
def topPortsUptoCard : Claim7 := { stood := { row := topPortsUptoRow, standIns := [], harness := (true, "384f2f6efe34a11c27f24d1f7572e864922f004e79e07bba0c8a72344efc95be"), looks := false }, kinds := [], alts := [], laidByText := true, laidKinds := [.data, .data], laidTests := true, laidLooks := .later }
def TopPortsUptoCardSaid : Prop := Claim7.holds Tryd.pinned (.plain (OpenSpec.upto topPortsSpec)) topPortsUptoCard
end Rows
end Go.Proofs.YtedeecnibmgobaaDoor
