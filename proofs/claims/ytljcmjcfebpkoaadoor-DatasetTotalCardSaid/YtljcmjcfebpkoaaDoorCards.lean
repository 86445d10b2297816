/-
  DERIVED. GIVEN WITH THE SEED: THE CARDS: each row of YtljcmjcfebpkoaaDoorRows.lean that lists a variable, with what it lists TIED to the program's text (the seventh form; the later family's looks); each row that meets fmt, with fmt's text TOLD by the authors' own Lean function (tested against real Go, not proved from fmt's source: count such statements apart). THE CARD IS WHAT COUNTS. Prove the row's statement (the work); the ties are given (YtljcmjcfebpkoaaDoorTie.lean); close each card by the builder's one call (the guide's Derived/Test/ToyasCard.lean, 'card_holds'). Laid BY PROGRAM, IN A SANDBOX (cutbox-door.mjs). By AI agents, Wed Nov 11 2026. No macro, syntax, notation, axiom, sorry.
-/
import Derived.Test.YtljcmjcfebpkoaaDoorRows
import GoSem.ClaimSeven
namespace Go.Proofs.YtljcmjcfebpkoaaDoor
namespace Rows

/-- THE TIED CARD OF 'timesynclaw34.DatasetCompares'. -/
def datasetComparesCard : Claim7 := { stood := { row := datasetComparesRow, standIns := [], harness := (true, "e8430dbd48526b851d3ffdb658a524ae1529676bd1347232885a674646183f3e"), looks := false }, kinds := [], alts := [], laidByText := true, laidKinds := [.data], laidTests := true, laidLooks := .later }
def DatasetComparesCardSaid : Prop := Claim7.holds Tryd.pinned (.plain (OpenSpec.ofChange datasetComparesSpec)) datasetComparesCard

/-- THE TIED CARD OF 'timesynclaw34.DatasetBest'. -/
def datasetBestCard : Claim7 := { stood := { row := datasetBestRow, standIns := [], harness := (true, "e8430dbd48526b851d3ffdb658a524ae1529676bd1347232885a674646183f3e"), looks := false }, kinds := [], alts := [], laidByText := true, laidKinds := [.data], laidTests := true, laidLooks := .later }
def DatasetBestCardSaid : Prop := Claim7.holds Tryd.pinned (.plain (OpenSpec.ofChange datasetBestSpec)) datasetBestCard

/-- THE TIED CARD OF 'timesynclaw34.DatasetMirror'. -/
def datasetMirrorCard : Claim7 := { stood := { row := datasetMirrorRow, standIns := [], harness := (true, "e8430dbd48526b851d3ffdb658a524ae1529676bd1347232885a674646183f3e"), looks := false }, kinds := [], alts := [], laidByText := true, laidKinds := [.data], laidTests := true, laidLooks := .later }
def DatasetMirrorCardSaid : Prop := Claim7.holds Tryd.pinned (.plain (OpenSpec.ofChange datasetMirrorSpec)) datasetMirrorCard

/-- THE TIED CARD OF 'timesynclaw34.DatasetQuality'. -/
def datasetQualityCard : Claim7 := { stood := { row := datasetQualityRow, standIns := [], harness := (true, "e8430dbd48526b851d3ffdb658a524ae1529676bd1347232885a674646183f3e"), looks := false }, kinds := [], alts := [], laidByText := true, laidKinds := [.data], laidTests := true, laidLooks := .later }
def DatasetQualityCardSaid : Prop := Claim7.holds Tryd.pinned (.plain (OpenSpec.ofChange datasetQualitySpec)) datasetQualityCard

/-- THE TIED CARD OF 'timesynclaw34.DatasetTotal'. -/
def datasetTotalCard : Claim7 := { stood := { row := datasetTotalRow, standIns := [], harness := (true, "e8430dbd48526b851d3ffdb658a524ae1529676bd1347232885a674646183f3e"), looks := false }, kinds := [], alts := [], laidByText := true, laidKinds := [.data], laidTests := true, laidLooks := .later }
def DatasetTotalCardSaid : Prop := Claim7.holds Tryd.pinned (.plain (OpenSpec.ofChange datasetTotalSpec)) datasetTotalCard

/-- THE TIED CARD OF 'timesynclaw34.DatasetSteps'. -/
def datasetStepsCard : Claim7 := { stood := { row := datasetStepsRow, standIns := [], harness := (true, "e8430dbd48526b851d3ffdb658a524ae1529676bd1347232885a674646183f3e"), looks := false }, kinds := [], alts := [], laidByText := true, laidKinds := [.data], laidTests := true, laidLooks := .later }
def DatasetStepsCardSaid : Prop := Claim7.holds Tryd.pinned (.plain (OpenSpec.ofChange datasetStepsSpec)) datasetStepsCard

/-- THE TIED CARD OF 'timesynclaw34.DatasetFarther'. -/
def datasetFartherCard : Claim7 := { stood := { row := datasetFartherRow, standIns := [], harness := (true, "e8430dbd48526b851d3ffdb658a524ae1529676bd1347232885a674646183f3e"), looks := false }, kinds := [], alts := [], laidByText := true, laidKinds := [.data], laidTests := true, laidLooks := .later }
def DatasetFartherCardSaid : Prop := Claim7.holds Tryd.pinned (.plain (OpenSpec.ofChange datasetFartherSpec)) datasetFartherCard

/-- THE TIED CARD OF 'timesynclaw34.DatasetOf'. -/
def datasetOfCard : Claim7 := { stood := { row := datasetOfRow, standIns := [], harness := (true, "e8430dbd48526b851d3ffdb658a524ae1529676bd1347232885a674646183f3e"), looks := false }, kinds := [], alts := [], laidByText := true, laidKinds := [.data], laidTests := true, laidLooks := .later }
def DatasetOfCardSaid : Prop := Claim7.holds Tryd.pinned (.plain (OpenSpec.ofChange datasetOfSpec)) datasetOfCard

/-- THE SECOND FORM's CARD OF 'timesynclaw34.DatasetCompares'. -/
def datasetComparesUptoCard : Claim7 := { stood := { row := datasetComparesUptoRow, standIns := [], harness := (true, "e8430dbd48526b851d3ffdb658a524ae1529676bd1347232885a674646183f3e"), looks := false }, kinds := [], alts := [], laidByText := true, laidKinds := [.data], laidTests := true, laidLooks := .later }
def DatasetComparesUptoCardSaid : Prop := Claim7.holds Tryd.pinned (.plain (OpenSpec.upto datasetComparesSpec)) datasetComparesUptoCard

/-- THE SECOND FORM's CARD OF 'timesynclaw34.DatasetBest'. -/
def datasetBestUptoCard : Claim7 := { stood := { row := datasetBestUptoRow, standIns := [], harness := (true, "e8430dbd48526b851d3ffdb658a524ae1529676bd1347232885a674646183f3e"), looks := false }, kinds := [], alts := [], laidByText := true, laidKinds := [.data], laidTests := true, laidLooks := .later }
def DatasetBestUptoCardSaid : Prop := Claim7.holds Tryd.pinned (.plain (OpenSpec.upto datasetBestSpec)) datasetBestUptoCard

/-- THE SECOND FORM's CARD OF 'timesynclaw34.DatasetMirror'. -/
def datasetMirrorUptoCard : Claim7 := { stood := { row := datasetMirrorUptoRow, standIns := [], harness := (true, "e8430dbd48526b851d3ffdb658a524ae1529676bd1347232885a674646183f3e"), looks := false }, kinds := [], alts := [], laidByText := true, laidKinds := [.data], laidTests := true, laidLooks := .later }
def DatasetMirrorUptoCardSaid : Prop := Claim7.holds Tryd.pinned (.plain (OpenSpec.upto datasetMirrorSpec)) datasetMirrorUptoCard

/-- THE SECOND FORM's CARD OF 'timesynclaw34.DatasetQuality'. -/
def datasetQualityUptoCard : Claim7 := { stood := { row := datasetQualityUptoRow, standIns := [], harness := (true, "e8430dbd48526b851d3ffdb658a524ae1529676bd1347232885a674646183f3e"), looks := false }, kinds := [], alts := [], laidByText := true, laidKinds := [.data], laidTests := true, laidLooks := .later }
def DatasetQualityUptoCardSaid : Prop := Claim7.holds Tryd.pinned (.plain (OpenSpec.upto datasetQualitySpec)) datasetQualityUptoCard

/-- THE SECOND FORM's CARD OF 'timesynclaw34.DatasetTotal'. -/
def datasetTotalUptoCard : Claim7 := { stood := { row := datasetTotalUptoRow, standIns := [], harness := (true, "e8430dbd48526b851d3ffdb658a524ae1529676bd1347232885a674646183f3e"), looks := false }, kinds := [], alts := [], laidByText := true, laidKinds := [.data], laidTests := true, laidLooks := .later }
def DatasetTotalUptoCardSaid : Prop := Claim7.holds Tryd.pinned (.plain (OpenSpec.upto datasetTotalSpec)) datasetTotalUptoCard

/-- THE SECOND FORM's CARD OF 'timesynclaw34.DatasetSteps'. -/
def datasetStepsUptoCard : Claim7 := { stood := { row := datasetStepsUptoRow, standIns := [], harness := (true, "e8430dbd48526b851d3ffdb658a524ae1529676bd1347232885a674646183f3e"), looks := false }, kinds := [], alts := [], laidByText := true, laidKinds := [.data], laidTests := true, laidLooks := .later }
def DatasetStepsUptoCardSaid : Prop := Claim7.holds Tryd.pinned (.plain (OpenSpec.upto datasetStepsSpec)) datasetStepsUptoCard

/-- THE SECOND FORM's CARD OF 'timesynclaw34.DatasetFarther'. -/
def datasetFartherUptoCard : Claim7 := { stood := { row := datasetFartherUptoRow, standIns := [], harness := (true, "e8430dbd48526b851d3ffdb658a524ae1529676bd1347232885a674646183f3e"), looks := false }, kinds := [], alts := [], laidByText := true, laidKinds := [.data], laidTests := true, laidLooks := .later }
def DatasetFartherUptoCardSaid : Prop := Claim7.holds Tryd.pinned (.plain (OpenSpec.upto datasetFartherSpec)) datasetFartherUptoCard

/-- THE SECOND FORM's CARD OF 'timesynclaw34.DatasetOf'. -/
def datasetOfUptoCard : Claim7 := { stood := { row := datasetOfUptoRow, standIns := [], harness := (true, "e8430dbd48526b851d3ffdb658a524ae1529676bd1347232885a674646183f3e"), looks := false }, kinds := [], alts := [], laidByText := true, laidKinds := [.data], laidTests := true, laidLooks := .later }
def DatasetOfUptoCardSaid : Prop := Claim7.holds Tryd.pinned (.plain (OpenSpec.upto datasetOfSpec)) datasetOfUptoCard
end Rows
end Go.Proofs.YtljcmjcfebpkoaaDoor
