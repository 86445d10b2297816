/-
  DERIVED. GIVEN WITH THE SEED: THE CARDS: each row of YtbfokncailhdoaaDoorRows.lean that lists a variable, with what it lists TIED to the program's text (the seventh form; the later family's looks); each row that meets fmt, with fmt's text TOLD by the authors' own Lean function (tested against real Go, not proved from fmt's source: count such statements apart). THE CARD IS WHAT COUNTS. Prove the row's statement (the work); the ties are given (YtbfokncailhdoaaDoorTie.lean); close each card by the builder's one call (the guide's Derived/Test/ToyasCard.lean, 'card_holds'). Laid BY PROGRAM, IN A SANDBOX (cutbox-door.mjs). By AI agents, Wed Nov 11 2026. No macro, syntax, notation, axiom, sorry.
-/
import Derived.Test.YtbfokncailhdoaaDoorRows
import GoSem.ClaimSeven
namespace Go.Proofs.YtbfokncailhdoaaDoor
namespace Rows

/-- THE TIED CARD OF 'timesynclaw37.PortNexts'. -/
def portNextsCard : Claim7 := { stood := { row := portNextsRow, standIns := [], harness := (true, "9633745341f4a574ac450f22684285c7324ce1ac2e60fea40d8277a36c76fe4c"), looks := false }, kinds := [], alts := [], laidByText := true, laidKinds := [.data, .data], laidTests := true, laidLooks := .later }
def PortNextsCardSaid : Prop := Claim7.holds Tryd.pinned (.plain (OpenSpec.ofChange portNextsSpec)) portNextsCard

/-- THE TIED CARD OF 'timesynclaw37.PortRuns'. -/
def portRunsCard : Claim7 := { stood := { row := portRunsRow, standIns := [], harness := (true, "9633745341f4a574ac450f22684285c7324ce1ac2e60fea40d8277a36c76fe4c"), looks := false }, kinds := [], alts := [], laidByText := true, laidKinds := [.data, .data], laidTests := true, laidLooks := .later }
def PortRunsCardSaid : Prop := Claim7.holds Tryd.pinned (.plain (OpenSpec.ofChange portRunsSpec)) portRunsCard

/-- THE TIED CARD OF 'timesynclaw37.PortEnters'. -/
def portEntersCard : Claim7 := { stood := { row := portEntersRow, standIns := [], harness := (true, "9633745341f4a574ac450f22684285c7324ce1ac2e60fea40d8277a36c76fe4c"), looks := false }, kinds := [], alts := [], laidByText := true, laidKinds := [.data, .data], laidTests := true, laidLooks := .later }
def PortEntersCardSaid : Prop := Claim7.holds Tryd.pinned (.plain (OpenSpec.ofChange portEntersSpec)) portEntersCard

/-- THE TIED CARD OF 'timesynclaw37.PortLeaves'. -/
def portLeavesCard : Claim7 := { stood := { row := portLeavesRow, standIns := [], harness := (true, "9633745341f4a574ac450f22684285c7324ce1ac2e60fea40d8277a36c76fe4c"), looks := false }, kinds := [], alts := [], laidByText := true, laidKinds := [.data, .data], laidTests := true, laidLooks := .later }
def PortLeavesCardSaid : Prop := Claim7.holds Tryd.pinned (.plain (OpenSpec.ofChange portLeavesSpec)) portLeavesCard

/-- THE TIED CARD OF 'timesynclaw37.PortDecides'. -/
def portDecidesCard : Claim7 := { stood := { row := portDecidesRow, standIns := [], harness := (true, "9633745341f4a574ac450f22684285c7324ce1ac2e60fea40d8277a36c76fe4c"), looks := false }, kinds := [], alts := [], laidByText := true, laidKinds := [.data, .data], laidTests := true, laidLooks := .later }
def PortDecidesCardSaid : Prop := Claim7.holds Tryd.pinned (.plain (OpenSpec.ofChange portDecidesSpec)) portDecidesCard

/-- THE TIED CARD OF 'timesynclaw37.PortNames'. -/
def portNamesCard : Claim7 := { stood := { row := portNamesRow, standIns := [], harness := (true, "9633745341f4a574ac450f22684285c7324ce1ac2e60fea40d8277a36c76fe4c"), looks := false }, kinds := [], alts := [], laidByText := true, laidKinds := [.data, .data], laidTests := true, laidLooks := .later }
def PortNamesCardSaid : Prop := Claim7.holds Tryd.pinned (.plain (OpenSpec.ofChange portNamesSpec)) portNamesCard

/-- THE TIED CARD OF 'timesynclaw37.PortJoins'. -/
def portJoinsCard : Claim7 := { stood := { row := portJoinsRow, standIns := [], harness := (true, "9633745341f4a574ac450f22684285c7324ce1ac2e60fea40d8277a36c76fe4c"), looks := false }, kinds := [], alts := [], laidByText := true, laidKinds := [.data, .data], laidTests := true, laidLooks := .later }
def PortJoinsCardSaid : Prop := Claim7.holds Tryd.pinned (.plain (OpenSpec.ofChange portJoinsSpec)) portJoinsCard

/-- THE SECOND FORM's CARD OF 'timesynclaw37.PortNexts'. -/
def portNextsUptoCard : Claim7 := { stood := { row := portNextsUptoRow, standIns := [], harness := (true, "9633745341f4a574ac450f22684285c7324ce1ac2e60fea40d8277a36c76fe4c"), looks := false }, kinds := [], alts := [], laidByText := true, laidKinds := [.data, .data], laidTests := true, laidLooks := .later }
def PortNextsUptoCardSaid : Prop := Claim7.holds Tryd.pinned (.plain (OpenSpec.upto portNextsSpec)) portNextsUptoCard

/-- THE SECOND FORM's CARD OF 'timesynclaw37.PortRuns'. -/
def portRunsUptoCard : Claim7 := { stood := { row := portRunsUptoRow, standIns := [], harness := (true, "9633745341f4a574ac450f22684285c7324ce1ac2e60fea40d8277a36c76fe4c"), looks := false }, kinds := [], alts := [], laidByText := true, laidKinds := [.data, .data], laidTests := true, laidLooks := .later }
def PortRunsUptoCardSaid : Prop := Claim7.holds Tryd.pinned (.plain (OpenSpec.upto portRunsSpec)) portRunsUptoCard

/-- THE SECOND FORM's CARD OF 'timesynclaw37.PortEnters'. -/
def portEntersUptoCard : Claim7 := { stood := { row := portEntersUptoRow, standIns := [], harness := (true, "9633745341f4a574ac450f22684285c7324ce1ac2e60fea40d8277a36c76fe4c"), looks := false }, kinds := [], alts := [], laidByText := true, laidKinds := [.data, .data], laidTests := true, laidLooks := .later }
def PortEntersUptoCardSaid : Prop := Claim7.holds Tryd.pinned (.plain (OpenSpec.upto portEntersSpec)) portEntersUptoCard

/-- THE SECOND FORM's CARD OF 'timesynclaw37.PortLeaves'. -/
def portLeavesUptoCard : Claim7 := { stood := { row := portLeavesUptoRow, standIns := [], harness := (true, "9633745341f4a574ac450f22684285c7324ce1ac2e60fea40d8277a36c76fe4c"), looks := false }, kinds := [], alts := [], laidByText := true, laidKinds := [.data, .data], laidTests := true, laidLooks := .later }
def PortLeavesUptoCardSaid : Prop := Claim7.holds Tryd.pinned (.plain (OpenSpec.upto portLeavesSpec)) portLeavesUptoCard

/-- THE SECOND FORM's CARD OF 'timesynclaw37.PortDecides'. -/
def portDecidesUptoCard : Claim7 := { stood := { row := portDecidesUptoRow, standIns := [], harness := (true, "9633745341f4a574ac450f22684285c7324ce1ac2e60fea40d8277a36c76fe4c"), looks := false }, kinds := [], alts := [], laidByText := true, laidKinds := [.data, .data], laidTests := true, laidLooks := .later }
def PortDecidesUptoCardSaid : Prop := Claim7.holds Tryd.pinned (.plain (OpenSpec.upto portDecidesSpec)) portDecidesUptoCard

/-- THE SECOND FORM's CARD OF 'timesynclaw37.PortNames'. -/
def portNamesUptoCard : Claim7 := { stood := { row := portNamesUptoRow, standIns := [], harness := (true, "9633745341f4a574ac450f22684285c7324ce1ac2e60fea40d8277a36c76fe4c"), looks := false }, kinds := [], alts := [], laidByText := true, laidKinds := [.data, .data], laidTests := true, laidLooks := .later }
def PortNamesUptoCardSaid : Prop := Claim7.holds Tryd.pinned (.plain (OpenSpec.upto portNamesSpec)) portNamesUptoCard

/-- THE SECOND FORM's CARD OF 'timesynclaw37.PortJoins'. -/
def portJoinsUptoCard : Claim7 := { stood := { row := portJoinsUptoRow, standIns := [], harness := (true, "9633745341f4a574ac450f22684285c7324ce1ac2e60fea40d8277a36c76fe4c"), looks := false }, kinds := [], alts := [], laidByText := true, laidKinds := [.data, .data], laidTests := true, laidLooks := .later }
def PortJoinsUptoCardSaid : Prop := Claim7.holds Tryd.pinned (.plain (OpenSpec.upto portJoinsSpec)) portJoinsUptoCard
end Rows
end Go.Proofs.YtbfokncailhdoaaDoor
