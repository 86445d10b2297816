/-
  DERIVED. GIVEN WITH THE SEED: THE CARDS: each row of YthbfjnmdjehljaaDoorRows.lean that lists a variable, with what it lists TIED to the program's text (the seventh form; the later family's looks); each row that meets fmt, with fmt's text TOLD by the authors' own Lean function (tested against real Go, not proved from fmt's source: count such statements apart). THE CARD IS WHAT COUNTS. Prove the row's statement (the work); the ties are given (YthbfjnmdjehljaaDoorTie.lean); close each card by the builder's one call (the guide's Derived/Test/ToyasCard.lean, 'card_holds'). Laid BY PROGRAM, IN A SANDBOX (cutbox-door.mjs). By AI agents, Wed Nov 11 2026. No macro, syntax, notation, axiom, sorry.
-/
import Derived.Test.YthbfjnmdjehljaaDoorRows
import GoSem.ClaimSeven
namespace Go.Proofs.YthbfjnmdjehljaaDoor
namespace Rows

/-- THE TIED CARD OF 'timesynclaw36.DecideCodes'. -/
def decideCodesCard : Claim7 := { stood := { row := decideCodesRow, standIns := [], harness := (true, "1828dc98bb33701228362b0d7a5bc5eaa912f216b4fe9f19060fd8c93c82374d"), looks := false }, kinds := [], alts := [], laidByText := true, laidKinds := [.data], laidTests := true, laidLooks := .later }
def DecideCodesCardSaid : Prop := Claim7.holds Tryd.pinned (.plain (OpenSpec.ofChange decideCodesSpec)) decideCodesCard

/-- THE TIED CARD OF 'timesynclaw36.DecideMasters'. -/
def decideMastersCard : Claim7 := { stood := { row := decideMastersRow, standIns := [], harness := (true, "1828dc98bb33701228362b0d7a5bc5eaa912f216b4fe9f19060fd8c93c82374d"), looks := false }, kinds := [], alts := [], laidByText := true, laidKinds := [.data], laidTests := true, laidLooks := .later }
def DecideMastersCardSaid : Prop := Claim7.holds Tryd.pinned (.plain (OpenSpec.ofChange decideMastersSpec)) decideMastersCard

/-- THE TIED CARD OF 'timesynclaw36.DecideSlave'. -/
def decideSlaveCard : Claim7 := { stood := { row := decideSlaveRow, standIns := [], harness := (true, "1828dc98bb33701228362b0d7a5bc5eaa912f216b4fe9f19060fd8c93c82374d"), looks := false }, kinds := [], alts := [], laidByText := true, laidKinds := [.data], laidTests := true, laidLooks := .later }
def DecideSlaveCardSaid : Prop := Claim7.holds Tryd.pinned (.plain (OpenSpec.ofChange decideSlaveSpec)) decideSlaveCard

/-- THE TIED CARD OF 'timesynclaw36.DecideAlone'. -/
def decideAloneCard : Claim7 := { stood := { row := decideAloneRow, standIns := [], harness := (true, "1828dc98bb33701228362b0d7a5bc5eaa912f216b4fe9f19060fd8c93c82374d"), looks := false }, kinds := [], alts := [], laidByText := true, laidKinds := [.data], laidTests := true, laidLooks := .later }
def DecideAloneCardSaid : Prop := Claim7.holds Tryd.pinned (.plain (OpenSpec.ofChange decideAloneSpec)) decideAloneCard

/-- THE TIED CARD OF 'timesynclaw36.DecideFollows'. -/
def decideFollowsCard : Claim7 := { stood := { row := decideFollowsRow, standIns := [], harness := (true, "1828dc98bb33701228362b0d7a5bc5eaa912f216b4fe9f19060fd8c93c82374d"), looks := false }, kinds := [], alts := [], laidByText := true, laidKinds := [.data], laidTests := true, laidLooks := .later }
def DecideFollowsCardSaid : Prop := Claim7.holds Tryd.pinned (.plain (OpenSpec.ofChange decideFollowsSpec)) decideFollowsCard

/-- THE SECOND FORM's CARD OF 'timesynclaw36.DecideCodes'. -/
def decideCodesUptoCard : Claim7 := { stood := { row := decideCodesUptoRow, standIns := [], harness := (true, "1828dc98bb33701228362b0d7a5bc5eaa912f216b4fe9f19060fd8c93c82374d"), looks := false }, kinds := [], alts := [], laidByText := true, laidKinds := [.data], laidTests := true, laidLooks := .later }
def DecideCodesUptoCardSaid : Prop := Claim7.holds Tryd.pinned (.plain (OpenSpec.upto decideCodesSpec)) decideCodesUptoCard

/-- THE SECOND FORM's CARD OF 'timesynclaw36.DecideMasters'. -/
def decideMastersUptoCard : Claim7 := { stood := { row := decideMastersUptoRow, standIns := [], harness := (true, "1828dc98bb33701228362b0d7a5bc5eaa912f216b4fe9f19060fd8c93c82374d"), looks := false }, kinds := [], alts := [], laidByText := true, laidKinds := [.data], laidTests := true, laidLooks := .later }
def DecideMastersUptoCardSaid : Prop := Claim7.holds Tryd.pinned (.plain (OpenSpec.upto decideMastersSpec)) decideMastersUptoCard

/-- THE SECOND FORM's CARD OF 'timesynclaw36.DecideSlave'. -/
def decideSlaveUptoCard : Claim7 := { stood := { row := decideSlaveUptoRow, standIns := [], harness := (true, "1828dc98bb33701228362b0d7a5bc5eaa912f216b4fe9f19060fd8c93c82374d"), looks := false }, kinds := [], alts := [], laidByText := true, laidKinds := [.data], laidTests := true, laidLooks := .later }
def DecideSlaveUptoCardSaid : Prop := Claim7.holds Tryd.pinned (.plain (OpenSpec.upto decideSlaveSpec)) decideSlaveUptoCard

/-- THE SECOND FORM's CARD OF 'timesynclaw36.DecideAlone'. -/
def decideAloneUptoCard : Claim7 := { stood := { row := decideAloneUptoRow, standIns := [], harness := (true, "1828dc98bb33701228362b0d7a5bc5eaa912f216b4fe9f19060fd8c93c82374d"), looks := false }, kinds := [], alts := [], laidByText := true, laidKinds := [.data], laidTests := true, laidLooks := .later }
def DecideAloneUptoCardSaid : Prop := Claim7.holds Tryd.pinned (.plain (OpenSpec.upto decideAloneSpec)) decideAloneUptoCard

/-- THE SECOND FORM's CARD OF 'timesynclaw36.DecideFollows'. -/
def decideFollowsUptoCard : Claim7 := { stood := { row := decideFollowsUptoRow, standIns := [], harness := (true, "1828dc98bb33701228362b0d7a5bc5eaa912f216b4fe9f19060fd8c93c82374d"), looks := false }, kinds := [], alts := [], laidByText := true, laidKinds := [.data], laidTests := true, laidLooks := .later }
def DecideFollowsUptoCardSaid : Prop := Claim7.holds Tryd.pinned (.plain (OpenSpec.upto decideFollowsSpec)) decideFollowsUptoCard
end Rows
end Go.Proofs.YthbfjnmdjehljaaDoor
