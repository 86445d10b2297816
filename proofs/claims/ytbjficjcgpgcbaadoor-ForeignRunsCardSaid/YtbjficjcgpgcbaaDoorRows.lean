/-
  NARROWER THAN 'FOR EVERY INPUT', by the rows' own cells (each row's printed sentence says how): ForeignRuns: laid · ForeignBounds: laid · ForeignBest: laid · ForeignSilence: laid · ForeignNeeds: laid · ForeignRefuses: laid · ForeignNobody: laid.
  DERIVED. THE GIVEN ROWS OF THIS SEAT. 7 by the template 'for every input the law returns true; each argument reads behind the call as it read before'; 0 by the template 'total and deterministic' (their statements: YtbjficjcgpgcbaaDoorTotals.lean).
  GIVEN WITH THE SEED: the statements are not yours to turn. If you find one false, say at which input.
  Laid BY PROGRAM, IN A SANDBOX (cutbox-rows.mjs): the forced cells as the released guide's own fill.sh prints them over the translation 508163099284e23a… (all of the seat's roots in one cut). By AI agents, Wed Nov 11 2026. No macro, syntax, notation, axiom, sorry.
-/
import Derived.Test.YtbjficjcgpgcbaaDoorChecked
import GoSem.Claim
import GoSem.ClaimJoined
import GoSem.ClaimMapViews
import Derived.JoinedTies
import Derived.KernelRfl
namespace Go.Proofs.YtbjficjcgpgcbaaDoor
/- THE CELL 'sum', in the pinned program and in every row, IS THE sha256 OF THE DUMP (.gsa) THAT YtbjficjcgpgcbaaDoorProg.lean LOADS. Nothing in Lean hashes anything: it is a label: what it is worth is what the hold of that sum in a sandbox is worth. -/
noncomputable def Tryd.pinned : Pinned := { name := "ytbjficjcgpgcbaadoor", sum := "508163099284e23ac1c149249e9b11d2307b32b0d7212975397a2c85ef55e0f5", checked := Tryd.checked }
namespace Rows
def none {H : Type} : Left H := { results := [], args := [] }

/- WHAT THE LISTED PACKAGE-LEVEL VARIABLES READ AS WHEN THE CALL BEGINS. Each datum BY PROGRAM (the guide's laid-datum.mjs) off the statement by which the dump's own 'gosem.cut.vars' lays the variable. In a bare row this is a premise. The card (YtbjficjcgpgcbaaDoorCards.lean) ties it to the program's text. -/
def laid_timesync_dataset_fields {H : Type} : DataW H := .agg [.lit (.int .i64 0), .lit (.int .i64 1), .lit (.int .i64 2), .lit (.int .i64 3), .lit (.int .i64 4), .lit (.int .i64 5), .lit (.int .i64 6), .lit (.int .i64 7), .lit (.int .i64 8), .lit (.int .i64 9), .lit (.int .i64 10), .lit (.int .i64 7), .lit (.int .i64 10), .lit (.int .i64 8)]

/-- 'timesynclaw35.ForeignRuns': WHATEVER THE INPUT: true; the input reads as it did. -/
def foreignRunsSpec : ChangeSpec := { name := "foreignRuns", fn := fun _ => fun
  | [d1, d2] => { results := [.lit (.bool true)], args := [d1, d2] }
  | _ => none }
def foreignRunsRow : OpenClaim := { program := "ytbjficjcgpgcbaadoor", sum := "508163099284e23ac1c149249e9b11d2307b32b0d7212975397a2c85ef55e0f5", func := "timesync/timesynclaw35.ForeignRuns", spec := "foreignRuns", unfollowed := true, recurses := true, named := ["timesync/dataset.fields"], apart := false, laid := [("timesync/dataset.fields", laid_timesync_dataset_fields)] }
def ForeignRunsSaid : Prop := foreignRunsRow.holds Tryd.pinned (OpenSpec.ofChange foreignRunsSpec)

/-- ITS FALSE NEIGHBOUR: 'it returns false'. Refute it at one input. -/
def foreignRunsWrong : ChangeSpec := { name := "foreignRuns", fn := fun _ => fun
  | [d1, d2] => { results := [.lit (.bool false)], args := [d1, d2] }
  | _ => none }
def ForeignRunsWrongFalsely : Prop := foreignRunsRow.holds Tryd.pinned (OpenSpec.ofChange foreignRunsWrong)

/-- 'timesynclaw35.ForeignBounds': WHATEVER THE INPUT: true; the input reads as it did. -/
def foreignBoundsSpec : ChangeSpec := { name := "foreignBounds", fn := fun _ => fun
  | [d1, d2] => { results := [.lit (.bool true)], args := [d1, d2] }
  | _ => none }
def foreignBoundsRow : OpenClaim := { program := "ytbjficjcgpgcbaadoor", sum := "508163099284e23ac1c149249e9b11d2307b32b0d7212975397a2c85ef55e0f5", func := "timesync/timesynclaw35.ForeignBounds", spec := "foreignBounds", unfollowed := true, recurses := true, named := ["timesync/dataset.fields"], apart := false, laid := [("timesync/dataset.fields", laid_timesync_dataset_fields)] }
def ForeignBoundsSaid : Prop := foreignBoundsRow.holds Tryd.pinned (OpenSpec.ofChange foreignBoundsSpec)

/-- ITS FALSE NEIGHBOUR: 'it returns false'. Refute it at one input. -/
def foreignBoundsWrong : ChangeSpec := { name := "foreignBounds", fn := fun _ => fun
  | [d1, d2] => { results := [.lit (.bool false)], args := [d1, d2] }
  | _ => none }
def ForeignBoundsWrongFalsely : Prop := foreignBoundsRow.holds Tryd.pinned (OpenSpec.ofChange foreignBoundsWrong)

/-- 'timesynclaw35.ForeignBest': WHATEVER THE INPUT: true; the input reads as it did. -/
def foreignBestSpec : ChangeSpec := { name := "foreignBest", fn := fun _ => fun
  | [d1, d2, d3] => { results := [.lit (.bool true)], args := [d1, d2, d3] }
  | _ => none }
def foreignBestRow : OpenClaim := { program := "ytbjficjcgpgcbaadoor", sum := "508163099284e23ac1c149249e9b11d2307b32b0d7212975397a2c85ef55e0f5", func := "timesync/timesynclaw35.ForeignBest", spec := "foreignBest", unfollowed := true, recurses := true, named := ["timesync/dataset.fields"], apart := false, laid := [("timesync/dataset.fields", laid_timesync_dataset_fields)] }
def ForeignBestSaid : Prop := foreignBestRow.holds Tryd.pinned (OpenSpec.ofChange foreignBestSpec)

/-- ITS FALSE NEIGHBOUR: 'it returns false'. Refute it at one input. -/
def foreignBestWrong : ChangeSpec := { name := "foreignBest", fn := fun _ => fun
  | [d1, d2, d3] => { results := [.lit (.bool false)], args := [d1, d2, d3] }
  | _ => none }
def ForeignBestWrongFalsely : Prop := foreignBestRow.holds Tryd.pinned (OpenSpec.ofChange foreignBestWrong)

/-- 'timesynclaw35.ForeignSilence': WHATEVER THE INPUT: true; the input reads as it did. -/
def foreignSilenceSpec : ChangeSpec := { name := "foreignSilence", fn := fun _ => fun
  | [d1, d2] => { results := [.lit (.bool true)], args := [d1, d2] }
  | _ => none }
def foreignSilenceRow : OpenClaim := { program := "ytbjficjcgpgcbaadoor", sum := "508163099284e23ac1c149249e9b11d2307b32b0d7212975397a2c85ef55e0f5", func := "timesync/timesynclaw35.ForeignSilence", spec := "foreignSilence", unfollowed := true, recurses := true, named := ["timesync/dataset.fields"], apart := false, laid := [("timesync/dataset.fields", laid_timesync_dataset_fields)] }
def ForeignSilenceSaid : Prop := foreignSilenceRow.holds Tryd.pinned (OpenSpec.ofChange foreignSilenceSpec)

/-- ITS FALSE NEIGHBOUR: 'it returns false'. Refute it at one input. -/
def foreignSilenceWrong : ChangeSpec := { name := "foreignSilence", fn := fun _ => fun
  | [d1, d2] => { results := [.lit (.bool false)], args := [d1, d2] }
  | _ => none }
def ForeignSilenceWrongFalsely : Prop := foreignSilenceRow.holds Tryd.pinned (OpenSpec.ofChange foreignSilenceWrong)

/-- 'timesynclaw35.ForeignNeeds': WHATEVER THE INPUT: true; the input reads as it did. -/
def foreignNeedsSpec : ChangeSpec := { name := "foreignNeeds", fn := fun _ => fun
  | [d1, d2, d3] => { results := [.lit (.bool true)], args := [d1, d2, d3] }
  | _ => none }
def foreignNeedsRow : OpenClaim := { program := "ytbjficjcgpgcbaadoor", sum := "508163099284e23ac1c149249e9b11d2307b32b0d7212975397a2c85ef55e0f5", func := "timesync/timesynclaw35.ForeignNeeds", spec := "foreignNeeds", unfollowed := true, recurses := true, named := ["timesync/dataset.fields"], apart := false, laid := [("timesync/dataset.fields", laid_timesync_dataset_fields)] }
def ForeignNeedsSaid : Prop := foreignNeedsRow.holds Tryd.pinned (OpenSpec.ofChange foreignNeedsSpec)

/-- ITS FALSE NEIGHBOUR: 'it returns false'. Refute it at one input. -/
def foreignNeedsWrong : ChangeSpec := { name := "foreignNeeds", fn := fun _ => fun
  | [d1, d2, d3] => { results := [.lit (.bool false)], args := [d1, d2, d3] }
  | _ => none }
def ForeignNeedsWrongFalsely : Prop := foreignNeedsRow.holds Tryd.pinned (OpenSpec.ofChange foreignNeedsWrong)

/-- 'timesynclaw35.ForeignRefuses': WHATEVER THE INPUT: true; the input reads as it did. -/
def foreignRefusesSpec : ChangeSpec := { name := "foreignRefuses", fn := fun _ => fun
  | [d1, d2] => { results := [.lit (.bool true)], args := [d1, d2] }
  | _ => none }
def foreignRefusesRow : OpenClaim := { program := "ytbjficjcgpgcbaadoor", sum := "508163099284e23ac1c149249e9b11d2307b32b0d7212975397a2c85ef55e0f5", func := "timesync/timesynclaw35.ForeignRefuses", spec := "foreignRefuses", unfollowed := true, recurses := true, named := ["timesync/dataset.fields"], apart := false, laid := [("timesync/dataset.fields", laid_timesync_dataset_fields)] }
def ForeignRefusesSaid : Prop := foreignRefusesRow.holds Tryd.pinned (OpenSpec.ofChange foreignRefusesSpec)

/-- ITS FALSE NEIGHBOUR: 'it returns false'. Refute it at one input. -/
def foreignRefusesWrong : ChangeSpec := { name := "foreignRefuses", fn := fun _ => fun
  | [d1, d2] => { results := [.lit (.bool false)], args := [d1, d2] }
  | _ => none }
def ForeignRefusesWrongFalsely : Prop := foreignRefusesRow.holds Tryd.pinned (OpenSpec.ofChange foreignRefusesWrong)

/-- 'timesynclaw35.ForeignNobody': WHATEVER THE INPUT: true; the input reads as it did. -/
def foreignNobodySpec : ChangeSpec := { name := "foreignNobody", fn := fun _ => fun
  | [d1, d2] => { results := [.lit (.bool true)], args := [d1, d2] }
  | _ => none }
def foreignNobodyRow : OpenClaim := { program := "ytbjficjcgpgcbaadoor", sum := "508163099284e23ac1c149249e9b11d2307b32b0d7212975397a2c85ef55e0f5", func := "timesync/timesynclaw35.ForeignNobody", spec := "foreignNobody", unfollowed := true, recurses := true, named := ["timesync/dataset.fields"], apart := false, laid := [("timesync/dataset.fields", laid_timesync_dataset_fields)] }
def ForeignNobodySaid : Prop := foreignNobodyRow.holds Tryd.pinned (OpenSpec.ofChange foreignNobodySpec)

/-- ITS FALSE NEIGHBOUR: 'it returns false'. Refute it at one input. -/
def foreignNobodyWrong : ChangeSpec := { name := "foreignNobody", fn := fun _ => fun
  | [d1, d2] => { results := [.lit (.bool false)], args := [d1, d2] }
  | _ => none }
def ForeignNobodyWrongFalsely : Prop := foreignNobodyRow.holds Tryd.pinned (OpenSpec.ofChange foreignNobodyWrong)

/- THE SECOND FORM. 'bulk': how many values and letters a reading holds, each counted each time it is reached (what is shared counts as often as it is met; a slice's spare places count too). A statement '..UptoSaid' is the law's where the arguments, and the package variables that the reading takes, are together of bulk at most 1048576: NARROWER than '..Said'. Prove '..Said' where nothing that the law and all that it calls make is longer than what came in: it says more and counts as full. Else prove '..UptoSaid'. A law counts once. -/
mutual
def uptoBulk {H : Type} : DataW H → Nat
  | .lit (.string bytes) => bytes.length + 1
  | .lit _ => 1
  | .nil => 1
  | .ptr d => uptoBulk d + 1
  | .slice elems spare => uptoBulkAll elems + uptoBulkAll spare + 1
  | .agg parts => uptoBulkAll parts + 1
  | .iface _ d => uptoBulk d + 1
  | .map entries => uptoBulkEntries entries + 1
  | .held _ => 1
def uptoBulkAll {H : Type} : List (DataW H) → Nat
  | [] => 0
  | d :: r => uptoBulk d + uptoBulkAll r
def uptoBulkEntries {H : Type} : List (Lit × DataW H) → Nat
  | [] => 0
  | x :: r => uptoBulkEntry x + uptoBulkEntries r
def uptoBulkEntry {H : Type} : Lit × DataW H → Nat
  | (.string bytes, d) => bytes.length + uptoBulk d + 1
  | (_, d) => uptoBulk d + 1
 end
def uptoSmall : (H : Type) → List (DataW H) → Bool := fun _ ds => decide (uptoBulkAll ds ≤ 1048576)
def OpenSpec.upto (s : _root_.Go.ChangeSpec) : _root_.Go.OpenSpec := { _root_.Go.OpenSpec.ofChange s with cond := some uptoSmall }

/-- 'timesynclaw35.ForeignRuns', WHERE WHAT IT READS IS OF BULK AT MOST 1048576: true; the input reads as it did. -/
def foreignRunsUptoRow : OpenClaim := { program := "ytbjficjcgpgcbaadoor", sum := "508163099284e23ac1c149249e9b11d2307b32b0d7212975397a2c85ef55e0f5", func := "timesync/timesynclaw35.ForeignRuns", spec := "foreignRuns", unfollowed := true, recurses := true, named := ["timesync/dataset.fields"], apart := false, laid := [("timesync/dataset.fields", laid_timesync_dataset_fields)], narrowed := true }
def ForeignRunsUptoSaid : Prop := foreignRunsUptoRow.holds Tryd.pinned (OpenSpec.upto foreignRunsSpec)

/-- 'timesynclaw35.ForeignBounds', WHERE WHAT IT READS IS OF BULK AT MOST 1048576: true; the input reads as it did. -/
def foreignBoundsUptoRow : OpenClaim := { program := "ytbjficjcgpgcbaadoor", sum := "508163099284e23ac1c149249e9b11d2307b32b0d7212975397a2c85ef55e0f5", func := "timesync/timesynclaw35.ForeignBounds", spec := "foreignBounds", unfollowed := true, recurses := true, named := ["timesync/dataset.fields"], apart := false, laid := [("timesync/dataset.fields", laid_timesync_dataset_fields)], narrowed := true }
def ForeignBoundsUptoSaid : Prop := foreignBoundsUptoRow.holds Tryd.pinned (OpenSpec.upto foreignBoundsSpec)

/-- 'timesynclaw35.ForeignBest', WHERE WHAT IT READS IS OF BULK AT MOST 1048576: true; the input reads as it did. -/
def foreignBestUptoRow : OpenClaim := { program := "ytbjficjcgpgcbaadoor", sum := "508163099284e23ac1c149249e9b11d2307b32b0d7212975397a2c85ef55e0f5", func := "timesync/timesynclaw35.ForeignBest", spec := "foreignBest", unfollowed := true, recurses := true, named := ["timesync/dataset.fields"], apart := false, laid := [("timesync/dataset.fields", laid_timesync_dataset_fields)], narrowed := true }
def ForeignBestUptoSaid : Prop := foreignBestUptoRow.holds Tryd.pinned (OpenSpec.upto foreignBestSpec)

/-- 'timesynclaw35.ForeignSilence', WHERE WHAT IT READS IS OF BULK AT MOST 1048576: true; the input reads as it did. -/
def foreignSilenceUptoRow : OpenClaim := { program := "ytbjficjcgpgcbaadoor", sum := "508163099284e23ac1c149249e9b11d2307b32b0d7212975397a2c85ef55e0f5", func := "timesync/timesynclaw35.ForeignSilence", spec := "foreignSilence", unfollowed := true, recurses := true, named := ["timesync/dataset.fields"], apart := false, laid := [("timesync/dataset.fields", laid_timesync_dataset_fields)], narrowed := true }
def ForeignSilenceUptoSaid : Prop := foreignSilenceUptoRow.holds Tryd.pinned (OpenSpec.upto foreignSilenceSpec)

/-- 'timesynclaw35.ForeignNeeds', WHERE WHAT IT READS IS OF BULK AT MOST 1048576: true; the input reads as it did. -/
def foreignNeedsUptoRow : OpenClaim := { program := "ytbjficjcgpgcbaadoor", sum := "508163099284e23ac1c149249e9b11d2307b32b0d7212975397a2c85ef55e0f5", func := "timesync/timesynclaw35.ForeignNeeds", spec := "foreignNeeds", unfollowed := true, recurses := true, named := ["timesync/dataset.fields"], apart := false, laid := [("timesync/dataset.fields", laid_timesync_dataset_fields)], narrowed := true }
def ForeignNeedsUptoSaid : Prop := foreignNeedsUptoRow.holds Tryd.pinned (OpenSpec.upto foreignNeedsSpec)

/-- 'timesynclaw35.ForeignRefuses', WHERE WHAT IT READS IS OF BULK AT MOST 1048576: true; the input reads as it did. -/
def foreignRefusesUptoRow : OpenClaim := { program := "ytbjficjcgpgcbaadoor", sum := "508163099284e23ac1c149249e9b11d2307b32b0d7212975397a2c85ef55e0f5", func := "timesync/timesynclaw35.ForeignRefuses", spec := "foreignRefuses", unfollowed := true, recurses := true, named := ["timesync/dataset.fields"], apart := false, laid := [("timesync/dataset.fields", laid_timesync_dataset_fields)], narrowed := true }
def ForeignRefusesUptoSaid : Prop := foreignRefusesUptoRow.holds Tryd.pinned (OpenSpec.upto foreignRefusesSpec)

/-- 'timesynclaw35.ForeignNobody', WHERE WHAT IT READS IS OF BULK AT MOST 1048576: true; the input reads as it did. -/
def foreignNobodyUptoRow : OpenClaim := { program := "ytbjficjcgpgcbaadoor", sum := "508163099284e23ac1c149249e9b11d2307b32b0d7212975397a2c85ef55e0f5", func := "timesync/timesynclaw35.ForeignNobody", spec := "foreignNobody", unfollowed := true, recurses := true, named := ["timesync/dataset.fields"], apart := false, laid := [("timesync/dataset.fields", laid_timesync_dataset_fields)], narrowed := true }
def ForeignNobodyUptoSaid : Prop := foreignNobodyUptoRow.holds Tryd.pinned (OpenSpec.upto foreignNobodySpec)

end Rows
end Go.Proofs.YtbjficjcgpgcbaaDoor
