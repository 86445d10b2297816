/-
  NARROWER THAN 'FOR EVERY INPUT', by the rows' own cells (each row's printed sentence says how): DatasetCompares: laid · DatasetBest: laid · DatasetMirror: laid · DatasetQuality: laid · DatasetTotal: laid · DatasetSteps: laid · DatasetFarther: laid · DatasetOf: laid.
  DERIVED. THE GIVEN ROWS OF THIS SEAT. 8 by the template 'for every input the law returns true; each argument reads behind the call as it read before'; 0 by the template 'total and deterministic' (their statements: YtljcmjcfebpkoaaDoorTotals.lean).
  GIVEN WITH THE SEED: the statements are not yours to turn. If you find one false, say at which input.
  Laid BY PROGRAM, IN A SANDBOX (cutbox-rows.mjs): the forced cells as the released guide's own fill.sh prints them over the translation b5fb6d76e1694e2d… (all of the seat's roots in one cut). By AI agents, Wed Nov 11 2026. No macro, syntax, notation, axiom, sorry.
-/
import Derived.Test.YtljcmjcfebpkoaaDoorChecked
import GoSem.Claim
import GoSem.ClaimJoined
import GoSem.ClaimMapViews
import Derived.JoinedTies
import Derived.KernelRfl
namespace Go.Proofs.YtljcmjcfebpkoaaDoor
/- THE CELL 'sum', in the pinned program and in every row, IS THE sha256 OF THE DUMP (.gsa) THAT YtljcmjcfebpkoaaDoorProg.lean LOADS. Nothing in Lean hashes anything: it is a label: what it is worth is what the hold of that sum in a sandbox is worth. -/
noncomputable def Tryd.pinned : Pinned := { name := "ytljcmjcfebpkoaadoor", sum := "b5fb6d76e1694e2dd40433a7490506a5cb50155d4f4c19192a38195d3eab1939", checked := Tryd.checked }
namespace Rows
def none {H : Type} : Left H := { results := [], args := [] }

/- WHAT THE LISTED PACKAGE-LEVEL VARIABLES READ AS WHEN THE CALL BEGINS. Each datum BY PROGRAM (the guide's laid-datum.mjs) off the statement by which the dump's own 'gosem.cut.vars' lays the variable. In a bare row this is a premise. The card (YtljcmjcfebpkoaaDoorCards.lean) ties it to the program's text. -/
def laid_timesync_dataset_fields {H : Type} : DataW H := .agg [.lit (.int .i64 0), .lit (.int .i64 1), .lit (.int .i64 2), .lit (.int .i64 3), .lit (.int .i64 4), .lit (.int .i64 5), .lit (.int .i64 6), .lit (.int .i64 7), .lit (.int .i64 8), .lit (.int .i64 9), .lit (.int .i64 10), .lit (.int .i64 7), .lit (.int .i64 10), .lit (.int .i64 8)]

/-- 'timesynclaw34.DatasetCompares': WHATEVER THE INPUT: true; the input reads as it did. -/
def datasetComparesSpec : ChangeSpec := { name := "datasetCompares", fn := fun _ => fun
  | [d1, d2] => { results := [.lit (.bool true)], args := [d1, d2] }
  | _ => none }
def datasetComparesRow : OpenClaim := { program := "ytljcmjcfebpkoaadoor", sum := "b5fb6d76e1694e2dd40433a7490506a5cb50155d4f4c19192a38195d3eab1939", func := "timesync/timesynclaw34.DatasetCompares", spec := "datasetCompares", unfollowed := true, recurses := true, named := ["timesync/dataset.fields"], apart := false, laid := [("timesync/dataset.fields", laid_timesync_dataset_fields)] }
def DatasetComparesSaid : Prop := datasetComparesRow.holds Tryd.pinned (OpenSpec.ofChange datasetComparesSpec)

/-- ITS FALSE NEIGHBOUR: 'it returns false'. Refute it at one input. -/
def datasetComparesWrong : ChangeSpec := { name := "datasetCompares", fn := fun _ => fun
  | [d1, d2] => { results := [.lit (.bool false)], args := [d1, d2] }
  | _ => none }
def DatasetComparesWrongFalsely : Prop := datasetComparesRow.holds Tryd.pinned (OpenSpec.ofChange datasetComparesWrong)

/-- 'timesynclaw34.DatasetBest': WHATEVER THE INPUT: true; the input reads as it did. -/
def datasetBestSpec : ChangeSpec := { name := "datasetBest", fn := fun _ => fun
  | [d1, d2, d3] => { results := [.lit (.bool true)], args := [d1, d2, d3] }
  | _ => none }
def datasetBestRow : OpenClaim := { program := "ytljcmjcfebpkoaadoor", sum := "b5fb6d76e1694e2dd40433a7490506a5cb50155d4f4c19192a38195d3eab1939", func := "timesync/timesynclaw34.DatasetBest", spec := "datasetBest", unfollowed := true, recurses := true, named := ["timesync/dataset.fields"], apart := false, laid := [("timesync/dataset.fields", laid_timesync_dataset_fields)] }
def DatasetBestSaid : Prop := datasetBestRow.holds Tryd.pinned (OpenSpec.ofChange datasetBestSpec)

/-- ITS FALSE NEIGHBOUR: 'it returns false'. Refute it at one input. -/
def datasetBestWrong : ChangeSpec := { name := "datasetBest", fn := fun _ => fun
  | [d1, d2, d3] => { results := [.lit (.bool false)], args := [d1, d2, d3] }
  | _ => none }
def DatasetBestWrongFalsely : Prop := datasetBestRow.holds Tryd.pinned (OpenSpec.ofChange datasetBestWrong)

/-- 'timesynclaw34.DatasetMirror': WHATEVER THE INPUT: true; the input reads as it did. -/
def datasetMirrorSpec : ChangeSpec := { name := "datasetMirror", fn := fun _ => fun
  | [d1, d2] => { results := [.lit (.bool true)], args := [d1, d2] }
  | _ => none }
def datasetMirrorRow : OpenClaim := { program := "ytljcmjcfebpkoaadoor", sum := "b5fb6d76e1694e2dd40433a7490506a5cb50155d4f4c19192a38195d3eab1939", func := "timesync/timesynclaw34.DatasetMirror", spec := "datasetMirror", unfollowed := true, recurses := true, named := ["timesync/dataset.fields"], apart := false, laid := [("timesync/dataset.fields", laid_timesync_dataset_fields)] }
def DatasetMirrorSaid : Prop := datasetMirrorRow.holds Tryd.pinned (OpenSpec.ofChange datasetMirrorSpec)

/-- ITS FALSE NEIGHBOUR: 'it returns false'. Refute it at one input. -/
def datasetMirrorWrong : ChangeSpec := { name := "datasetMirror", fn := fun _ => fun
  | [d1, d2] => { results := [.lit (.bool false)], args := [d1, d2] }
  | _ => none }
def DatasetMirrorWrongFalsely : Prop := datasetMirrorRow.holds Tryd.pinned (OpenSpec.ofChange datasetMirrorWrong)

/-- 'timesynclaw34.DatasetQuality': WHATEVER THE INPUT: true; the input reads as it did. -/
def datasetQualitySpec : ChangeSpec := { name := "datasetQuality", fn := fun _ => fun
  | [d1, d2, d3] => { results := [.lit (.bool true)], args := [d1, d2, d3] }
  | _ => none }
def datasetQualityRow : OpenClaim := { program := "ytljcmjcfebpkoaadoor", sum := "b5fb6d76e1694e2dd40433a7490506a5cb50155d4f4c19192a38195d3eab1939", func := "timesync/timesynclaw34.DatasetQuality", spec := "datasetQuality", unfollowed := true, recurses := true, named := ["timesync/dataset.fields"], apart := false, laid := [("timesync/dataset.fields", laid_timesync_dataset_fields)] }
def DatasetQualitySaid : Prop := datasetQualityRow.holds Tryd.pinned (OpenSpec.ofChange datasetQualitySpec)

/-- ITS FALSE NEIGHBOUR: 'it returns false'. Refute it at one input. -/
def datasetQualityWrong : ChangeSpec := { name := "datasetQuality", fn := fun _ => fun
  | [d1, d2, d3] => { results := [.lit (.bool false)], args := [d1, d2, d3] }
  | _ => none }
def DatasetQualityWrongFalsely : Prop := datasetQualityRow.holds Tryd.pinned (OpenSpec.ofChange datasetQualityWrong)

/-- 'timesynclaw34.DatasetTotal': WHATEVER THE INPUT: true; the input reads as it did. -/
def datasetTotalSpec : ChangeSpec := { name := "datasetTotal", fn := fun _ => fun
  | [d1, d2, d3] => { results := [.lit (.bool true)], args := [d1, d2, d3] }
  | _ => none }
def datasetTotalRow : OpenClaim := { program := "ytljcmjcfebpkoaadoor", sum := "b5fb6d76e1694e2dd40433a7490506a5cb50155d4f4c19192a38195d3eab1939", func := "timesync/timesynclaw34.DatasetTotal", spec := "datasetTotal", unfollowed := true, recurses := true, named := ["timesync/dataset.fields"], apart := false, laid := [("timesync/dataset.fields", laid_timesync_dataset_fields)] }
def DatasetTotalSaid : Prop := datasetTotalRow.holds Tryd.pinned (OpenSpec.ofChange datasetTotalSpec)

/-- ITS FALSE NEIGHBOUR: 'it returns false'. Refute it at one input. -/
def datasetTotalWrong : ChangeSpec := { name := "datasetTotal", fn := fun _ => fun
  | [d1, d2, d3] => { results := [.lit (.bool false)], args := [d1, d2, d3] }
  | _ => none }
def DatasetTotalWrongFalsely : Prop := datasetTotalRow.holds Tryd.pinned (OpenSpec.ofChange datasetTotalWrong)

/-- 'timesynclaw34.DatasetSteps': WHATEVER THE INPUT: true; the input reads as it did. -/
def datasetStepsSpec : ChangeSpec := { name := "datasetSteps", fn := fun _ => fun
  | [d1, d2, d3] => { results := [.lit (.bool true)], args := [d1, d2, d3] }
  | _ => none }
def datasetStepsRow : OpenClaim := { program := "ytljcmjcfebpkoaadoor", sum := "b5fb6d76e1694e2dd40433a7490506a5cb50155d4f4c19192a38195d3eab1939", func := "timesync/timesynclaw34.DatasetSteps", spec := "datasetSteps", unfollowed := true, recurses := true, named := ["timesync/dataset.fields"], apart := false, laid := [("timesync/dataset.fields", laid_timesync_dataset_fields)] }
def DatasetStepsSaid : Prop := datasetStepsRow.holds Tryd.pinned (OpenSpec.ofChange datasetStepsSpec)

/-- ITS FALSE NEIGHBOUR: 'it returns false'. Refute it at one input. -/
def datasetStepsWrong : ChangeSpec := { name := "datasetSteps", fn := fun _ => fun
  | [d1, d2, d3] => { results := [.lit (.bool false)], args := [d1, d2, d3] }
  | _ => none }
def DatasetStepsWrongFalsely : Prop := datasetStepsRow.holds Tryd.pinned (OpenSpec.ofChange datasetStepsWrong)

/-- 'timesynclaw34.DatasetFarther': WHATEVER THE INPUT: true; the input reads as it did. -/
def datasetFartherSpec : ChangeSpec := { name := "datasetFarther", fn := fun _ => fun
  | [d1, d2, d3] => { results := [.lit (.bool true)], args := [d1, d2, d3] }
  | _ => none }
def datasetFartherRow : OpenClaim := { program := "ytljcmjcfebpkoaadoor", sum := "b5fb6d76e1694e2dd40433a7490506a5cb50155d4f4c19192a38195d3eab1939", func := "timesync/timesynclaw34.DatasetFarther", spec := "datasetFarther", unfollowed := true, recurses := true, named := ["timesync/dataset.fields"], apart := false, laid := [("timesync/dataset.fields", laid_timesync_dataset_fields)] }
def DatasetFartherSaid : Prop := datasetFartherRow.holds Tryd.pinned (OpenSpec.ofChange datasetFartherSpec)

/-- ITS FALSE NEIGHBOUR: 'it returns false'. Refute it at one input. -/
def datasetFartherWrong : ChangeSpec := { name := "datasetFarther", fn := fun _ => fun
  | [d1, d2, d3] => { results := [.lit (.bool false)], args := [d1, d2, d3] }
  | _ => none }
def DatasetFartherWrongFalsely : Prop := datasetFartherRow.holds Tryd.pinned (OpenSpec.ofChange datasetFartherWrong)

/-- 'timesynclaw34.DatasetOf': WHATEVER THE INPUT: true; the input reads as it did. -/
def datasetOfSpec : ChangeSpec := { name := "datasetOf", fn := fun _ => fun
  | [d1, d2, d3] => { results := [.lit (.bool true)], args := [d1, d2, d3] }
  | _ => none }
def datasetOfRow : OpenClaim := { program := "ytljcmjcfebpkoaadoor", sum := "b5fb6d76e1694e2dd40433a7490506a5cb50155d4f4c19192a38195d3eab1939", func := "timesync/timesynclaw34.DatasetOf", spec := "datasetOf", unfollowed := true, recurses := true, named := ["timesync/dataset.fields"], apart := false, laid := [("timesync/dataset.fields", laid_timesync_dataset_fields)] }
def DatasetOfSaid : Prop := datasetOfRow.holds Tryd.pinned (OpenSpec.ofChange datasetOfSpec)

/-- ITS FALSE NEIGHBOUR: 'it returns false'. Refute it at one input. -/
def datasetOfWrong : ChangeSpec := { name := "datasetOf", fn := fun _ => fun
  | [d1, d2, d3] => { results := [.lit (.bool false)], args := [d1, d2, d3] }
  | _ => none }
def DatasetOfWrongFalsely : Prop := datasetOfRow.holds Tryd.pinned (OpenSpec.ofChange datasetOfWrong)

/- THE SECOND FORM. 'bulk': how many values and letters a reading holds, each counted each time it is reached (what is shared counts as often as it is met; a slice's spare places count too). A statement '..UptoSaid' is the law's where the arguments, and the package variables that the reading takes, are together of bulk at most 1048576: NARROWER than '..Said'. Prove '..Said' where nothing that the law and all that it calls make is longer than what came in: it says more and counts as full. Else prove '..UptoSaid'. A law counts once. -/
mutual
def uptoBulk {H : Type} : DataW H → Nat
  | .lit (.string bytes) => bytes.length + 1
  | .lit _ => 1
  | .nil => 1
  | .ptr d => uptoBulk d + 1
  | .slice elems spare => uptoBulkAll elems + uptoBulkAll spare + 1
  | .agg parts => uptoBulkAll parts + 1
  | .iface _ d => uptoBulk d + 1
  | .map entries => uptoBulkEntries entries + 1
  | .held _ => 1
def uptoBulkAll {H : Type} : List (DataW H) → Nat
  | [] => 0
  | d :: r => uptoBulk d + uptoBulkAll r
def uptoBulkEntries {H : Type} : List (Lit × DataW H) → Nat
  | [] => 0
  | x :: r => uptoBulkEntry x + uptoBulkEntries r
def uptoBulkEntry {H : Type} : Lit × DataW H → Nat
  | (.string bytes, d) => bytes.length + uptoBulk d + 1
  | (_, d) => uptoBulk d + 1
 end
def uptoSmall : (H : Type) → List (DataW H) → Bool := fun _ ds => decide (uptoBulkAll ds ≤ 1048576)
def OpenSpec.upto (s : _root_.Go.ChangeSpec) : _root_.Go.OpenSpec := { _root_.Go.OpenSpec.ofChange s with cond := some uptoSmall }

/-- 'timesynclaw34.DatasetCompares', WHERE WHAT IT READS IS OF BULK AT MOST 1048576: true; the input reads as it did. -/
def datasetComparesUptoRow : OpenClaim := { program := "ytljcmjcfebpkoaadoor", sum := "b5fb6d76e1694e2dd40433a7490506a5cb50155d4f4c19192a38195d3eab1939", func := "timesync/timesynclaw34.DatasetCompares", spec := "datasetCompares", unfollowed := true, recurses := true, named := ["timesync/dataset.fields"], apart := false, laid := [("timesync/dataset.fields", laid_timesync_dataset_fields)], narrowed := true }
def DatasetComparesUptoSaid : Prop := datasetComparesUptoRow.holds Tryd.pinned (OpenSpec.upto datasetComparesSpec)

/-- 'timesynclaw34.DatasetBest', WHERE WHAT IT READS IS OF BULK AT MOST 1048576: true; the input reads as it did. -/
def datasetBestUptoRow : OpenClaim := { program := "ytljcmjcfebpkoaadoor", sum := "b5fb6d76e1694e2dd40433a7490506a5cb50155d4f4c19192a38195d3eab1939", func := "timesync/timesynclaw34.DatasetBest", spec := "datasetBest", unfollowed := true, recurses := true, named := ["timesync/dataset.fields"], apart := false, laid := [("timesync/dataset.fields", laid_timesync_dataset_fields)], narrowed := true }
def DatasetBestUptoSaid : Prop := datasetBestUptoRow.holds Tryd.pinned (OpenSpec.upto datasetBestSpec)

/-- 'timesynclaw34.DatasetMirror', WHERE WHAT IT READS IS OF BULK AT MOST 1048576: true; the input reads as it did. -/
def datasetMirrorUptoRow : OpenClaim := { program := "ytljcmjcfebpkoaadoor", sum := "b5fb6d76e1694e2dd40433a7490506a5cb50155d4f4c19192a38195d3eab1939", func := "timesync/timesynclaw34.DatasetMirror", spec := "datasetMirror", unfollowed := true, recurses := true, named := ["timesync/dataset.fields"], apart := false, laid := [("timesync/dataset.fields", laid_timesync_dataset_fields)], narrowed := true }
def DatasetMirrorUptoSaid : Prop := datasetMirrorUptoRow.holds Tryd.pinned (OpenSpec.upto datasetMirrorSpec)

/-- 'timesynclaw34.DatasetQuality', WHERE WHAT IT READS IS OF BULK AT MOST 1048576: true; the input reads as it did. -/
def datasetQualityUptoRow : OpenClaim := { program := "ytljcmjcfebpkoaadoor", sum := "b5fb6d76e1694e2dd40433a7490506a5cb50155d4f4c19192a38195d3eab1939", func := "timesync/timesynclaw34.DatasetQuality", spec := "datasetQuality", unfollowed := true, recurses := true, named := ["timesync/dataset.fields"], apart := false, laid := [("timesync/dataset.fields", laid_timesync_dataset_fields)], narrowed := true }
def DatasetQualityUptoSaid : Prop := datasetQualityUptoRow.holds Tryd.pinned (OpenSpec.upto datasetQualitySpec)

/-- 'timesynclaw34.DatasetTotal', WHERE WHAT IT READS IS OF BULK AT MOST 1048576: true; the input reads as it did. -/
def datasetTotalUptoRow : OpenClaim := { program := "ytljcmjcfebpkoaadoor", sum := "b5fb6d76e1694e2dd40433a7490506a5cb50155d4f4c19192a38195d3eab1939", func := "timesync/timesynclaw34.DatasetTotal", spec := "datasetTotal", unfollowed := true, recurses := true, named := ["timesync/dataset.fields"], apart := false, laid := [("timesync/dataset.fields", laid_timesync_dataset_fields)], narrowed := true }
def DatasetTotalUptoSaid : Prop := datasetTotalUptoRow.holds Tryd.pinned (OpenSpec.upto datasetTotalSpec)

/-- 'timesynclaw34.DatasetSteps', WHERE WHAT IT READS IS OF BULK AT MOST 1048576: true; the input reads as it did. -/
def datasetStepsUptoRow : OpenClaim := { program := "ytljcmjcfebpkoaadoor", sum := "b5fb6d76e1694e2dd40433a7490506a5cb50155d4f4c19192a38195d3eab1939", func := "timesync/timesynclaw34.DatasetSteps", spec := "datasetSteps", unfollowed := true, recurses := true, named := ["timesync/dataset.fields"], apart := false, laid := [("timesync/dataset.fields", laid_timesync_dataset_fields)], narrowed := true }
def DatasetStepsUptoSaid : Prop := datasetStepsUptoRow.holds Tryd.pinned (OpenSpec.upto datasetStepsSpec)

/-- 'timesynclaw34.DatasetFarther', WHERE WHAT IT READS IS OF BULK AT MOST 1048576: true; the input reads as it did. -/
def datasetFartherUptoRow : OpenClaim := { program := "ytljcmjcfebpkoaadoor", sum := "b5fb6d76e1694e2dd40433a7490506a5cb50155d4f4c19192a38195d3eab1939", func := "timesync/timesynclaw34.DatasetFarther", spec := "datasetFarther", unfollowed := true, recurses := true, named := ["timesync/dataset.fields"], apart := false, laid := [("timesync/dataset.fields", laid_timesync_dataset_fields)], narrowed := true }
def DatasetFartherUptoSaid : Prop := datasetFartherUptoRow.holds Tryd.pinned (OpenSpec.upto datasetFartherSpec)

/-- 'timesynclaw34.DatasetOf', WHERE WHAT IT READS IS OF BULK AT MOST 1048576: true; the input reads as it did. -/
def datasetOfUptoRow : OpenClaim := { program := "ytljcmjcfebpkoaadoor", sum := "b5fb6d76e1694e2dd40433a7490506a5cb50155d4f4c19192a38195d3eab1939", func := "timesync/timesynclaw34.DatasetOf", spec := "datasetOf", unfollowed := true, recurses := true, named := ["timesync/dataset.fields"], apart := false, laid := [("timesync/dataset.fields", laid_timesync_dataset_fields)], narrowed := true }
def DatasetOfUptoSaid : Prop := datasetOfUptoRow.holds Tryd.pinned (OpenSpec.upto datasetOfSpec)

end Rows
end Go.Proofs.YtljcmjcfebpkoaaDoor
