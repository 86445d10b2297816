/-
  NARROWER THAN 'FOR EVERY INPUT', by the rows' own cells (each row's printed sentence says how): BoundaryFollows: laid · BoundarySends: laid · BoundaryNobody: laid.
  DERIVED. THE GIVEN ROWS OF THIS SEAT. 3 by the template 'for every input the law returns true; each argument reads behind the call as it read before'; 0 by the template 'total and deterministic' (their statements: YtfcpmapfhgibpaaDoorTotals.lean).
  GIVEN WITH THE SEED: the statements are not yours to turn. If you find one false, say at which input.
  Laid BY PROGRAM, IN A SANDBOX (cutbox-rows.mjs): the forced cells as the released guide's own fill.sh prints them over the translation 5785b980fe612bf9… (all of the seat's roots in one cut). By AI agents, Wed Nov 11 2026. No macro, syntax, notation, axiom, sorry.
-/
import Derived.Test.YtfcpmapfhgibpaaDoorChecked
import GoSem.Claim
import GoSem.ClaimJoined
import GoSem.ClaimMapViews
import Derived.JoinedTies
import Derived.KernelRfl
namespace Go.Proofs.YtfcpmapfhgibpaaDoor
/- THE CELL 'sum', in the pinned program and in every row, IS THE sha256 OF THE DUMP (.gsa) THAT YtfcpmapfhgibpaaDoorProg.lean LOADS. Nothing in Lean hashes anything: it is a label: what it is worth is what the hold of that sum in a sandbox is worth. -/
noncomputable def Tryd.pinned : Pinned := { name := "ytfcpmapfhgibpaadoor", sum := "5785b980fe612bf98724b5a0891d43ede12520e5736a84be74828152dbb3dbc0", checked := Tryd.checked }
namespace Rows
def none {H : Type} : Left H := { results := [], args := [] }

/- WHAT THE LISTED PACKAGE-LEVEL VARIABLES READ AS WHEN THE CALL BEGINS. Each datum BY PROGRAM (the guide's laid-datum.mjs) off the statement by which the dump's own 'gosem.cut.vars' lays the variable. In a bare row this is a premise. The card (YtfcpmapfhgibpaaDoorCards.lean) ties it to the program's text. -/
def laid_timesync_port_table {H : Type} : DataW H := .agg [.agg [.lit (.int .i64 0), .lit (.int .i64 1), .lit (.int .i64 1), .lit (.int .i64 1), .lit (.int .i64 1), .lit (.int .i64 1), .lit (.int .i64 1), .lit (.int .i64 1), .lit (.int .i64 1), .lit (.int .i64 1)], .agg [.lit (.int .i64 0), .lit (.int .i64 4), .lit (.int .i64 2), .lit (.int .i64 3), .lit (.int .i64 4), .lit (.int .i64 5), .lit (.int .i64 6), .lit (.int .i64 7), .lit (.int .i64 8), .lit (.int .i64 9)], .agg [.lit (.int .i64 0), .lit (.int .i64 2), .lit (.int .i64 2), .lit (.int .i64 3), .lit (.int .i64 2), .lit (.int .i64 2), .lit (.int .i64 2), .lit (.int .i64 2), .lit (.int .i64 2), .lit (.int .i64 2)], .agg [.lit (.int .i64 0), .lit (.int .i64 1), .lit (.int .i64 1), .lit (.int .i64 3), .lit (.int .i64 4), .lit (.int .i64 5), .lit (.int .i64 6), .lit (.int .i64 7), .lit (.int .i64 8), .lit (.int .i64 9)], .agg [.lit (.int .i64 0), .lit (.int .i64 3), .lit (.int .i64 3), .lit (.int .i64 3), .lit (.int .i64 3), .lit (.int .i64 3), .lit (.int .i64 3), .lit (.int .i64 3), .lit (.int .i64 3), .lit (.int .i64 3)], .agg [.lit (.int .i64 0), .lit (.int .i64 1), .lit (.int .i64 2), .lit (.int .i64 1), .lit (.int .i64 4), .lit (.int .i64 5), .lit (.int .i64 6), .lit (.int .i64 7), .lit (.int .i64 8), .lit (.int .i64 9)], .agg [.lit (.int .i64 0), .lit (.int .i64 1), .lit (.int .i64 2), .lit (.int .i64 3), .lit (.int .i64 6), .lit (.int .i64 5), .lit (.int .i64 6), .lit (.int .i64 6), .lit (.int .i64 6), .lit (.int .i64 6)], .agg [.lit (.int .i64 0), .lit (.int .i64 1), .lit (.int .i64 2), .lit (.int .i64 3), .lit (.int .i64 4), .lit (.int .i64 6), .lit (.int .i64 6), .lit (.int .i64 7), .lit (.int .i64 8), .lit (.int .i64 9)], .agg [.lit (.int .i64 0), .lit (.int .i64 1), .lit (.int .i64 2), .lit (.int .i64 3), .lit (.int .i64 4), .lit (.int .i64 5), .lit (.int .i64 6), .lit (.int .i64 7), .lit (.int .i64 9), .lit (.int .i64 9)], .agg [.lit (.int .i64 0), .lit (.int .i64 1), .lit (.int .i64 2), .lit (.int .i64 3), .lit (.int .i64 4), .lit (.int .i64 5), .lit (.int .i64 6), .lit (.int .i64 7), .lit (.int .i64 8), .lit (.int .i64 8)], .agg [.lit (.int .i64 0), .lit (.int .i64 1), .lit (.int .i64 2), .lit (.int .i64 3), .lit (.int .i64 4), .lit (.int .i64 5), .lit (.int .i64 6), .lit (.int .i64 7), .lit (.int .i64 8), .lit (.int .i64 9)], .agg [.lit (.int .i64 0), .lit (.int .i64 1), .lit (.int .i64 2), .lit (.int .i64 3), .lit (.int .i64 5), .lit (.int .i64 5), .lit (.int .i64 6), .lit (.int .i64 5), .lit (.int .i64 5), .lit (.int .i64 5)], .agg [.lit (.int .i64 0), .lit (.int .i64 1), .lit (.int .i64 2), .lit (.int .i64 3), .lit (.int .i64 5), .lit (.int .i64 5), .lit (.int .i64 6), .lit (.int .i64 5), .lit (.int .i64 5), .lit (.int .i64 5)], .agg [.lit (.int .i64 0), .lit (.int .i64 1), .lit (.int .i64 2), .lit (.int .i64 3), .lit (.int .i64 5), .lit (.int .i64 5), .lit (.int .i64 6), .lit (.int .i64 5), .lit (.int .i64 5), .lit (.int .i64 5)], .agg [.lit (.int .i64 0), .lit (.int .i64 1), .lit (.int .i64 2), .lit (.int .i64 3), .lit (.int .i64 7), .lit (.int .i64 7), .lit (.int .i64 7), .lit (.int .i64 7), .lit (.int .i64 7), .lit (.int .i64 7)], .agg [.lit (.int .i64 0), .lit (.int .i64 1), .lit (.int .i64 2), .lit (.int .i64 3), .lit (.int .i64 7), .lit (.int .i64 7), .lit (.int .i64 7), .lit (.int .i64 7), .lit (.int .i64 7), .lit (.int .i64 7)], .agg [.lit (.int .i64 0), .lit (.int .i64 1), .lit (.int .i64 2), .lit (.int .i64 3), .lit (.int .i64 8), .lit (.int .i64 8), .lit (.int .i64 8), .lit (.int .i64 8), .lit (.int .i64 8), .lit (.int .i64 8)]]
def laid_timesync_dataset_fields {H : Type} : DataW H := .agg [.lit (.int .i64 0), .lit (.int .i64 1), .lit (.int .i64 2), .lit (.int .i64 3), .lit (.int .i64 4), .lit (.int .i64 5), .lit (.int .i64 6), .lit (.int .i64 7), .lit (.int .i64 8), .lit (.int .i64 9), .lit (.int .i64 10), .lit (.int .i64 7), .lit (.int .i64 10), .lit (.int .i64 8)]

/-- 'timesynclaw41.BoundaryFollows': WHATEVER THE INPUT: true; the input reads as it did. -/
def boundaryFollowsSpec : ChangeSpec := { name := "boundaryFollows", fn := fun _ => fun
  | [d1, d2] => { results := [.lit (.bool true)], args := [d1, d2] }
  | _ => none }
def boundaryFollowsRow : OpenClaim := { program := "ytfcpmapfhgibpaadoor", sum := "5785b980fe612bf98724b5a0891d43ede12520e5736a84be74828152dbb3dbc0", func := "timesync/timesynclaw41.BoundaryFollows", spec := "boundaryFollows", unfollowed := true, recurses := true, named := ["timesync/port.table", "timesync/dataset.fields"], apart := false, laid := [("timesync/port.table", laid_timesync_port_table), ("timesync/dataset.fields", laid_timesync_dataset_fields)] }
def BoundaryFollowsSaid : Prop := boundaryFollowsRow.holds Tryd.pinned (OpenSpec.ofChange boundaryFollowsSpec)

/-- ITS FALSE NEIGHBOUR: 'it returns false'. Refute it at one input. -/
def boundaryFollowsWrong : ChangeSpec := { name := "boundaryFollows", fn := fun _ => fun
  | [d1, d2] => { results := [.lit (.bool false)], args := [d1, d2] }
  | _ => none }
def BoundaryFollowsWrongFalsely : Prop := boundaryFollowsRow.holds Tryd.pinned (OpenSpec.ofChange boundaryFollowsWrong)

/-- 'timesynclaw41.BoundarySends': WHATEVER THE INPUT: true; the input reads as it did. -/
def boundarySendsSpec : ChangeSpec := { name := "boundarySends", fn := fun _ => fun
  | [d1, d2] => { results := [.lit (.bool true)], args := [d1, d2] }
  | _ => none }
def boundarySendsRow : OpenClaim := { program := "ytfcpmapfhgibpaadoor", sum := "5785b980fe612bf98724b5a0891d43ede12520e5736a84be74828152dbb3dbc0", func := "timesync/timesynclaw41.BoundarySends", spec := "boundarySends", unfollowed := true, recurses := true, named := ["timesync/port.table", "timesync/dataset.fields"], apart := false, laid := [("timesync/port.table", laid_timesync_port_table), ("timesync/dataset.fields", laid_timesync_dataset_fields)] }
def BoundarySendsSaid : Prop := boundarySendsRow.holds Tryd.pinned (OpenSpec.ofChange boundarySendsSpec)

/-- ITS FALSE NEIGHBOUR: 'it returns false'. Refute it at one input. -/
def boundarySendsWrong : ChangeSpec := { name := "boundarySends", fn := fun _ => fun
  | [d1, d2] => { results := [.lit (.bool false)], args := [d1, d2] }
  | _ => none }
def BoundarySendsWrongFalsely : Prop := boundarySendsRow.holds Tryd.pinned (OpenSpec.ofChange boundarySendsWrong)

/-- 'timesynclaw41.BoundaryNobody': WHATEVER THE INPUT: true; the input reads as it did. -/
def boundaryNobodySpec : ChangeSpec := { name := "boundaryNobody", fn := fun _ => fun
  | [d1, d2, d3] => { results := [.lit (.bool true)], args := [d1, d2, d3] }
  | _ => none }
def boundaryNobodyRow : OpenClaim := { program := "ytfcpmapfhgibpaadoor", sum := "5785b980fe612bf98724b5a0891d43ede12520e5736a84be74828152dbb3dbc0", func := "timesync/timesynclaw41.BoundaryNobody", spec := "boundaryNobody", unfollowed := true, recurses := true, named := ["timesync/dataset.fields", "timesync/port.table"], apart := false, laid := [("timesync/port.table", laid_timesync_port_table), ("timesync/dataset.fields", laid_timesync_dataset_fields)] }
def BoundaryNobodySaid : Prop := boundaryNobodyRow.holds Tryd.pinned (OpenSpec.ofChange boundaryNobodySpec)

/-- ITS FALSE NEIGHBOUR: 'it returns false'. Refute it at one input. -/
def boundaryNobodyWrong : ChangeSpec := { name := "boundaryNobody", fn := fun _ => fun
  | [d1, d2, d3] => { results := [.lit (.bool false)], args := [d1, d2, d3] }
  | _ => none }
def BoundaryNobodyWrongFalsely : Prop := boundaryNobodyRow.holds Tryd.pinned (OpenSpec.ofChange boundaryNobodyWrong)

/- THE SECOND FORM. 'bulk': how many values and letters a reading holds, each counted each time it is reached (what is shared counts as often as it is met; a slice's spare places count too). A statement '..UptoSaid' is the law's where the arguments, and the package variables that the reading takes, are together of bulk at most 1048576: NARROWER than '..Said'. Prove '..Said' where nothing that the law and all that it calls make is longer than what came in: it says more and counts as full. Else prove '..UptoSaid'. A law counts once. -/
mutual
def uptoBulk {H : Type} : DataW H → Nat
  | .lit (.string bytes) => bytes.length + 1
  | .lit _ => 1
  | .nil => 1
  | .ptr d => uptoBulk d + 1
  | .slice elems spare => uptoBulkAll elems + uptoBulkAll spare + 1
  | .agg parts => uptoBulkAll parts + 1
  | .iface _ d => uptoBulk d + 1
  | .map entries => uptoBulkEntries entries + 1
  | .held _ => 1
def uptoBulkAll {H : Type} : List (DataW H) → Nat
  | [] => 0
  | d :: r => uptoBulk d + uptoBulkAll r
def uptoBulkEntries {H : Type} : List (Lit × DataW H) → Nat
  | [] => 0
  | x :: r => uptoBulkEntry x + uptoBulkEntries r
def uptoBulkEntry {H : Type} : Lit × DataW H → Nat
  | (.string bytes, d) => bytes.length + uptoBulk d + 1
  | (_, d) => uptoBulk d + 1
 end
def uptoSmall : (H : Type) → List (DataW H) → Bool := fun _ ds => decide (uptoBulkAll ds ≤ 1048576)
def OpenSpec.upto (s : _root_.Go.ChangeSpec) : _root_.Go.OpenSpec := { _root_.Go.OpenSpec.ofChange s with cond := some uptoSmall }

/-- 'timesynclaw41.BoundaryFollows', WHERE WHAT IT READS IS OF BULK AT MOST 1048576: true; the input reads as it did. -/
def boundaryFollowsUptoRow : OpenClaim := { program := "ytfcpmapfhgibpaadoor", sum := "5785b980fe612bf98724b5a0891d43ede12520e5736a84be74828152dbb3dbc0", func := "timesync/timesynclaw41.BoundaryFollows", spec := "boundaryFollows", unfollowed := true, recurses := true, named := ["timesync/port.table", "timesync/dataset.fields"], apart := false, laid := [("timesync/port.table", laid_timesync_port_table), ("timesync/dataset.fields", laid_timesync_dataset_fields)], narrowed := true }
def BoundaryFollowsUptoSaid : Prop := boundaryFollowsUptoRow.holds Tryd.pinned (OpenSpec.upto boundaryFollowsSpec)

/-- 'timesynclaw41.BoundarySends', WHERE WHAT IT READS IS OF BULK AT MOST 1048576: true; the input reads as it did. -/
def boundarySendsUptoRow : OpenClaim := { program := "ytfcpmapfhgibpaadoor", sum := "5785b980fe612bf98724b5a0891d43ede12520e5736a84be74828152dbb3dbc0", func := "timesync/timesynclaw41.BoundarySends", spec := "boundarySends", unfollowed := true, recurses := true, named := ["timesync/port.table", "timesync/dataset.fields"], apart := false, laid := [("timesync/port.table", laid_timesync_port_table), ("timesync/dataset.fields", laid_timesync_dataset_fields)], narrowed := true }
def BoundarySendsUptoSaid : Prop := boundarySendsUptoRow.holds Tryd.pinned (OpenSpec.upto boundarySendsSpec)

/-- 'timesynclaw41.BoundaryNobody', WHERE WHAT IT READS IS OF BULK AT MOST 1048576: true; the input reads as it did. -/
def boundaryNobodyUptoRow : OpenClaim := { program := "ytfcpmapfhgibpaadoor", sum := "5785b980fe612bf98724b5a0891d43ede12520e5736a84be74828152dbb3dbc0", func := "timesync/timesynclaw41.BoundaryNobody", spec := "boundaryNobody", unfollowed := true, recurses := true, named := ["timesync/dataset.fields", "timesync/port.table"], apart := false, laid := [("timesync/port.table", laid_timesync_port_table), ("timesync/dataset.fields", laid_timesync_dataset_fields)], narrowed := true }
def BoundaryNobodyUptoSaid : Prop := boundaryNobodyUptoRow.holds Tryd.pinned (OpenSpec.upto boundaryNobodySpec)

end Rows
end Go.Proofs.YtfcpmapfhgibpaaDoor
