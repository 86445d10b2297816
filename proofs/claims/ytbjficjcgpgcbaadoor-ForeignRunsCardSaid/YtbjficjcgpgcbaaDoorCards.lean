/-
  DERIVED. GIVEN WITH THE SEED: THE CARDS: each row of YtbjficjcgpgcbaaDoorRows.lean that lists a variable, with what it lists TIED to the program's text (the seventh form; the later family's looks); each row that meets fmt, with fmt's text TOLD by the authors' own Lean function (tested against real Go, not proved from fmt's source: count such statements apart). THE CARD IS WHAT COUNTS. Prove the row's statement (the work); the ties are given (YtbjficjcgpgcbaaDoorTie.lean); close each card by the builder's one call (the guide's Derived/Test/ToyasCard.lean, 'card_holds'). Laid BY PROGRAM, IN A SANDBOX (cutbox-door.mjs). By AI agents, Wed Nov 11 2026. No macro, syntax, notation, axiom, sorry.
-/
import Derived.Test.YtbjficjcgpgcbaaDoorRows
import GoSem.ClaimSeven
namespace Go.Proofs.YtbjficjcgpgcbaaDoor
namespace Rows

/-- THE TIED CARD OF 'timesynclaw35.ForeignRuns'. -/
def foreignRunsCard : Claim7 := { stood := { row := foreignRunsRow, standIns := [], harness := (true, "d111174b227ef76c12d0a16b266fd7778befad29536b3a7a9a477d1b43f3c5ac"), looks := false }, kinds := [], alts := [], laidByText := true, laidKinds := [.data], laidTests := true, laidLooks := .later }
def ForeignRunsCardSaid : Prop := Claim7.holds Tryd.pinned (.plain (OpenSpec.ofChange foreignRunsSpec)) foreignRunsCard

/-- THE TIED CARD OF 'timesynclaw35.ForeignBounds'. -/
def foreignBoundsCard : Claim7 := { stood := { row := foreignBoundsRow, standIns := [], harness := (true, "d111174b227ef76c12d0a16b266fd7778befad29536b3a7a9a477d1b43f3c5ac"), looks := false }, kinds := [], alts := [], laidByText := true, laidKinds := [.data], laidTests := true, laidLooks := .later }
def ForeignBoundsCardSaid : Prop := Claim7.holds Tryd.pinned (.plain (OpenSpec.ofChange foreignBoundsSpec)) foreignBoundsCard

/-- THE TIED CARD OF 'timesynclaw35.ForeignBest'. -/
def foreignBestCard : Claim7 := { stood := { row := foreignBestRow, standIns := [], harness := (true, "d111174b227ef76c12d0a16b266fd7778befad29536b3a7a9a477d1b43f3c5ac"), looks := false }, kinds := [], alts := [], laidByText := true, laidKinds := [.data], laidTests := true, laidLooks := .later }
def ForeignBestCardSaid : Prop := Claim7.holds Tryd.pinned (.plain (OpenSpec.ofChange foreignBestSpec)) foreignBestCard

/-- THE TIED CARD OF 'timesynclaw35.ForeignSilence'. -/
def foreignSilenceCard : Claim7 := { stood := { row := foreignSilenceRow, standIns := [], harness := (true, "d111174b227ef76c12d0a16b266fd7778befad29536b3a7a9a477d1b43f3c5ac"), looks := false }, kinds := [], alts := [], laidByText := true, laidKinds := [.data], laidTests := true, laidLooks := .later }
def ForeignSilenceCardSaid : Prop := Claim7.holds Tryd.pinned (.plain (OpenSpec.ofChange foreignSilenceSpec)) foreignSilenceCard

/-- THE TIED CARD OF 'timesynclaw35.ForeignNeeds'. -/
def foreignNeedsCard : Claim7 := { stood := { row := foreignNeedsRow, standIns := [], harness := (true, "d111174b227ef76c12d0a16b266fd7778befad29536b3a7a9a477d1b43f3c5ac"), looks := false }, kinds := [], alts := [], laidByText := true, laidKinds := [.data], laidTests := true, laidLooks := .later }
def ForeignNeedsCardSaid : Prop := Claim7.holds Tryd.pinned (.plain (OpenSpec.ofChange foreignNeedsSpec)) foreignNeedsCard

/-- THE TIED CARD OF 'timesynclaw35.ForeignRefuses'. -/
def foreignRefusesCard : Claim7 := { stood := { row := foreignRefusesRow, standIns := [], harness := (true, "d111174b227ef76c12d0a16b266fd7778befad29536b3a7a9a477d1b43f3c5ac"), looks := false }, kinds := [], alts := [], laidByText := true, laidKinds := [.data], laidTests := true, laidLooks := .later }
def ForeignRefusesCardSaid : Prop := Claim7.holds Tryd.pinned (.plain (OpenSpec.ofChange foreignRefusesSpec)) foreignRefusesCard

/-- THE TIED CARD OF 'timesynclaw35.ForeignNobody'. -/
def foreignNobodyCard : Claim7 := { stood := { row := foreignNobodyRow, standIns := [], harness := (true, "d111174b227ef76c12d0a16b266fd7778befad29536b3a7a9a477d1b43f3c5ac"), looks := false }, kinds := [], alts := [], laidByText := true, laidKinds := [.data], laidTests := true, laidLooks := .later }
def ForeignNobodyCardSaid : Prop := Claim7.holds Tryd.pinned (.plain (OpenSpec.ofChange foreignNobodySpec)) foreignNobodyCard

/-- THE SECOND FORM's CARD OF 'timesynclaw35.ForeignRuns'. -/
def foreignRunsUptoCard : Claim7 := { stood := { row := foreignRunsUptoRow, standIns := [], harness := (true, "d111174b227ef76c12d0a16b266fd7778befad29536b3a7a9a477d1b43f3c5ac"), looks := false }, kinds := [], alts := [], laidByText := true, laidKinds := [.data], laidTests := true, laidLooks := .later }
def ForeignRunsUptoCardSaid : Prop := Claim7.holds Tryd.pinned (.plain (OpenSpec.upto foreignRunsSpec)) foreignRunsUptoCard

/-- THE SECOND FORM's CARD OF 'timesynclaw35.ForeignBounds'. -/
def foreignBoundsUptoCard : Claim7 := { stood := { row := foreignBoundsUptoRow, standIns := [], harness := (true, "d111174b227ef76c12d0a16b266fd7778befad29536b3a7a9a477d1b43f3c5ac"), looks := false }, kinds := [], alts := [], laidByText := true, laidKinds := [.data], laidTests := true, laidLooks := .later }
def ForeignBoundsUptoCardSaid : Prop := Claim7.holds Tryd.pinned (.plain (OpenSpec.upto foreignBoundsSpec)) foreignBoundsUptoCard

/-- THE SECOND FORM's CARD OF 'timesynclaw35.ForeignBest'. -/
def foreignBestUptoCard : Claim7 := { stood := { row := foreignBestUptoRow, standIns := [], harness := (true, "d111174b227ef76c12d0a16b266fd7778befad29536b3a7a9a477d1b43f3c5ac"), looks := false }, kinds := [], alts := [], laidByText := true, laidKinds := [.data], laidTests := true, laidLooks := .later }
def ForeignBestUptoCardSaid : Prop := Claim7.holds Tryd.pinned (.plain (OpenSpec.upto foreignBestSpec)) foreignBestUptoCard

/-- THE SECOND FORM's CARD OF 'timesynclaw35.ForeignSilence'. -/
def foreignSilenceUptoCard : Claim7 := { stood := { row := foreignSilenceUptoRow, standIns := [], harness := (true, "d111174b227ef76c12d0a16b266fd7778befad29536b3a7a9a477d1b43f3c5ac"), looks := false }, kinds := [], alts := [], laidByText := true, laidKinds := [.data], laidTests := true, laidLooks := .later }
def ForeignSilenceUptoCardSaid : Prop := Claim7.holds Tryd.pinned (.plain (OpenSpec.upto foreignSilenceSpec)) foreignSilenceUptoCard

/-- THE SECOND FORM's CARD OF 'timesynclaw35.ForeignNeeds'. -/
def foreignNeedsUptoCard : Claim7 := { stood := { row := foreignNeedsUptoRow, standIns := [], harness := (true, "d111174b227ef76c12d0a16b266fd7778befad29536b3a7a9a477d1b43f3c5ac"), looks := false }, kinds := [], alts := [], laidByText := true, laidKinds := [.data], laidTests := true, laidLooks := .later }
def ForeignNeedsUptoCardSaid : Prop := Claim7.holds Tryd.pinned (.plain (OpenSpec.upto foreignNeedsSpec)) foreignNeedsUptoCard

/-- THE SECOND FORM's CARD OF 'timesynclaw35.ForeignRefuses'. -/
def foreignRefusesUptoCard : Claim7 := { stood := { row := foreignRefusesUptoRow, standIns := [], harness := (true, "d111174b227ef76c12d0a16b266fd7778befad29536b3a7a9a477d1b43f3c5ac"), looks := false }, kinds := [], alts := [], laidByText := true, laidKinds := [.data], laidTests := true, laidLooks := .later }
def ForeignRefusesUptoCardSaid : Prop := Claim7.holds Tryd.pinned (.plain (OpenSpec.upto foreignRefusesSpec)) foreignRefusesUptoCard

/-- THE SECOND FORM's CARD OF 'timesynclaw35.ForeignNobody'. -/
def foreignNobodyUptoCard : Claim7 := { stood := { row := foreignNobodyUptoRow, standIns := [], harness := (true, "d111174b227ef76c12d0a16b266fd7778befad29536b3a7a9a477d1b43f3c5ac"), looks := false }, kinds := [], alts := [], laidByText := true, laidKinds := [.data], laidTests := true, laidLooks := .later }
def ForeignNobodyUptoCardSaid : Prop := Claim7.holds Tryd.pinned (.plain (OpenSpec.upto foreignNobodySpec)) foreignNobodyUptoCard
end Rows
end Go.Proofs.YtbjficjcgpgcbaaDoor
