/-
  DERIVED. GIVEN WITH THE SEED: THE CARDS: each row of YtfcpmapfhgibpaaDoorRows.lean that lists a variable, with what it lists TIED to the program's text (the seventh form; the later family's looks); each row that meets fmt, with fmt's text TOLD by the authors' own Lean function (tested against real Go, not proved from fmt's source: count such statements apart). THE CARD IS WHAT COUNTS. Prove the row's statement (the work); the ties are given (YtfcpmapfhgibpaaDoorTie.lean); close each card by the builder's one call (the guide's Derived/Test/ToyasCard.lean, 'card_holds'). Laid BY PROGRAM, IN A SANDBOX (cutbox-door.mjs). By AI agents, Wed Nov 11 2026. No macro, syntax, notation, axiom, sorry.
-/
import Derived.Test.YtfcpmapfhgibpaaDoorRows
import GoSem.ClaimSeven
namespace Go.Proofs.YtfcpmapfhgibpaaDoor
namespace Rows

/-- THE TIED CARD OF 'timesynclaw41.BoundaryFollows'. -/
def boundaryFollowsCard : Claim7 := { stood := { row := boundaryFollowsRow, standIns := [], harness := (true, "031cea6607ea52276da31ec21fea6008cfb717d02524cf35f36e8e9c2fc3b728"), looks := false }, kinds := [], alts := [], laidByText := true, laidKinds := [.data, .data], laidTests := true, laidLooks := .later }
def BoundaryFollowsCardSaid : Prop := Claim7.holds Tryd.pinned (.plain (OpenSpec.ofChange boundaryFollowsSpec)) boundaryFollowsCard

/-- THE TIED CARD OF 'timesynclaw41.BoundarySends'. -/
def boundarySendsCard : Claim7 := { stood := { row := boundarySendsRow, standIns := [], harness := (true, "031cea6607ea52276da31ec21fea6008cfb717d02524cf35f36e8e9c2fc3b728"), looks := false }, kinds := [], alts := [], laidByText := true, laidKinds := [.data, .data], laidTests := true, laidLooks := .later }
def BoundarySendsCardSaid : Prop := Claim7.holds Tryd.pinned (.plain (OpenSpec.ofChange boundarySendsSpec)) boundarySendsCard

/-- THE TIED CARD OF 'timesynclaw41.BoundaryNobody'. -/
def boundaryNobodyCard : Claim7 := { stood := { row := boundaryNobodyRow, standIns := [], harness := (true, "031cea6607ea52276da31ec21fea6008cfb717d02524cf35f36e8e9c2fc3b728"), looks := false }, kinds := [], alts := [], laidByText := true, laidKinds := [.data, .data], laidTests := true, laidLooks := .later }
def BoundaryNobodyCardSaid : Prop := Claim7.holds Tryd.pinned (.plain (OpenSpec.ofChange boundaryNobodySpec)) boundaryNobodyCard

/-- THE SECOND FORM's CARD OF 'timesynclaw41.BoundaryFollows'. -/
def boundaryFollowsUptoCard : Claim7 := { stood := { row := boundaryFollowsUptoRow, standIns := [], harness := (true, "031cea6607ea52276da31ec21fea6008cfb717d02524cf35f36e8e9c2fc3b728"), looks := false }, kinds := [], alts := [], laidByText := true, laidKinds := [.data, .data], laidTests := true, laidLooks := .later }
def BoundaryFollowsUptoCardSaid : Prop := Claim7.holds Tryd.pinned (.plain (OpenSpec.upto boundaryFollowsSpec)) boundaryFollowsUptoCard

/-- THE SECOND FORM's CARD OF 'timesynclaw41.BoundarySends'. -/
def boundarySendsUptoCard : Claim7 := { stood := { row := boundarySendsUptoRow, standIns := [], harness := (true, "031cea6607ea52276da31ec21fea6008cfb717d02524cf35f36e8e9c2fc3b728"), looks := false }, kinds := [], alts := [], laidByText := true, laidKinds := [.data, .data], laidTests := true, laidLooks := .later }
def BoundarySendsUptoCardSaid : Prop := Claim7.holds Tryd.pinned (.plain (OpenSpec.upto boundarySendsSpec)) boundarySendsUptoCard

/-- THE SECOND FORM's CARD OF 'timesynclaw41.BoundaryNobody'. -/
def boundaryNobodyUptoCard : Claim7 := { stood := { row := boundaryNobodyUptoRow, standIns := [], harness := (true, "031cea6607ea52276da31ec21fea6008cfb717d02524cf35f36e8e9c2fc3b728"), looks := false }, kinds := [], alts := [], laidByText := true, laidKinds := [.data, .data], laidTests := true, laidLooks := .later }
def BoundaryNobodyUptoCardSaid : Prop := Claim7.holds Tryd.pinned (.plain (OpenSpec.upto boundaryNobodySpec)) boundaryNobodyUptoCard
end Rows
end Go.Proofs.YtfcpmapfhgibpaaDoor
