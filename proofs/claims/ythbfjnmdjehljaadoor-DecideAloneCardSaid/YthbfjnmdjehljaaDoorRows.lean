/-
  NARROWER THAN 'FOR EVERY INPUT', by the rows' own cells (each row's printed sentence says how): DecideCodes: laid · DecideMasters: laid · DecideSlave: laid · DecideAlone: laid · DecideFollows: laid.
  DERIVED. THE GIVEN ROWS OF THIS SEAT. 5 by the template 'for every input the law returns true; each argument reads behind the call as it read before'; 0 by the template 'total and deterministic' (their statements: YthbfjnmdjehljaaDoorTotals.lean).
  GIVEN WITH THE SEED: the statements are not yours to turn. If you find one false, say at which input.
  Laid BY PROGRAM, IN A SANDBOX (cutbox-rows.mjs): the forced cells as the released guide's own fill.sh prints them over the translation b70132c51b3606c2… (all of the seat's roots in one cut). By AI agents, Wed Nov 11 2026. No macro, syntax, notation, axiom, sorry.
-/
import Derived.Test.YthbfjnmdjehljaaDoorChecked
import GoSem.Claim
import GoSem.ClaimJoined
import GoSem.ClaimMapViews
import Derived.JoinedTies
import Derived.KernelRfl
namespace Go.Proofs.YthbfjnmdjehljaaDoor
/- THE CELL 'sum', in the pinned program and in every row, IS THE sha256 OF THE DUMP (.gsa) THAT YthbfjnmdjehljaaDoorProg.lean LOADS. Nothing in Lean hashes anything: it is a label: what it is worth is what the hold of that sum in a sandbox is worth. -/
noncomputable def Tryd.pinned : Pinned := { name := "ythbfjnmdjehljaadoor", sum := "b70132c51b3606c2377fbe95ea9c0275d734f6d3ba0d41cb609bac2008de4597", checked := Tryd.checked }
namespace Rows
def none {H : Type} : Left H := { results := [], args := [] }

/- WHAT THE LISTED PACKAGE-LEVEL VARIABLES READ AS WHEN THE CALL BEGINS. Each datum BY PROGRAM (the guide's laid-datum.mjs) off the statement by which the dump's own 'gosem.cut.vars' lays the variable. In a bare row this is a premise. The card (YthbfjnmdjehljaaDoorCards.lean) ties it to the program's text. -/
def laid_timesync_dataset_fields {H : Type} : DataW H := .agg [.lit (.int .i64 0), .lit (.int .i64 1), .lit (.int .i64 2), .lit (.int .i64 3), .lit (.int .i64 4), .lit (.int .i64 5), .lit (.int .i64 6), .lit (.int .i64 7), .lit (.int .i64 8), .lit (.int .i64 9), .lit (.int .i64 10), .lit (.int .i64 7), .lit (.int .i64 10), .lit (.int .i64 8)]

/-- 'timesynclaw36.DecideCodes': WHATEVER THE INPUT: true; the input reads as it did. -/
def decideCodesSpec : ChangeSpec := { name := "decideCodes", fn := fun _ => fun
  | [d1, d2] => { results := [.lit (.bool true)], args := [d1, d2] }
  | _ => none }
def decideCodesRow : OpenClaim := { program := "ythbfjnmdjehljaadoor", sum := "b70132c51b3606c2377fbe95ea9c0275d734f6d3ba0d41cb609bac2008de4597", func := "timesync/timesynclaw36.DecideCodes", spec := "decideCodes", unfollowed := true, recurses := true, named := ["timesync/dataset.fields"], apart := false, laid := [("timesync/dataset.fields", laid_timesync_dataset_fields)] }
def DecideCodesSaid : Prop := decideCodesRow.holds Tryd.pinned (OpenSpec.ofChange decideCodesSpec)

/-- ITS FALSE NEIGHBOUR: 'it returns false'. Refute it at one input. -/
def decideCodesWrong : ChangeSpec := { name := "decideCodes", fn := fun _ => fun
  | [d1, d2] => { results := [.lit (.bool false)], args := [d1, d2] }
  | _ => none }
def DecideCodesWrongFalsely : Prop := decideCodesRow.holds Tryd.pinned (OpenSpec.ofChange decideCodesWrong)

/-- 'timesynclaw36.DecideMasters': WHATEVER THE INPUT: true; the input reads as it did. -/
def decideMastersSpec : ChangeSpec := { name := "decideMasters", fn := fun _ => fun
  | [d1, d2, d3] => { results := [.lit (.bool true)], args := [d1, d2, d3] }
  | _ => none }
def decideMastersRow : OpenClaim := { program := "ythbfjnmdjehljaadoor", sum := "b70132c51b3606c2377fbe95ea9c0275d734f6d3ba0d41cb609bac2008de4597", func := "timesync/timesynclaw36.DecideMasters", spec := "decideMasters", unfollowed := true, recurses := true, named := ["timesync/dataset.fields"], apart := false, laid := [("timesync/dataset.fields", laid_timesync_dataset_fields)] }
def DecideMastersSaid : Prop := decideMastersRow.holds Tryd.pinned (OpenSpec.ofChange decideMastersSpec)

/-- ITS FALSE NEIGHBOUR: 'it returns false'. Refute it at one input. -/
def decideMastersWrong : ChangeSpec := { name := "decideMasters", fn := fun _ => fun
  | [d1, d2, d3] => { results := [.lit (.bool false)], args := [d1, d2, d3] }
  | _ => none }
def DecideMastersWrongFalsely : Prop := decideMastersRow.holds Tryd.pinned (OpenSpec.ofChange decideMastersWrong)

/-- 'timesynclaw36.DecideSlave': WHATEVER THE INPUT: true; the input reads as it did. -/
def decideSlaveSpec : ChangeSpec := { name := "decideSlave", fn := fun _ => fun
  | [d1, d2] => { results := [.lit (.bool true)], args := [d1, d2] }
  | _ => none }
def decideSlaveRow : OpenClaim := { program := "ythbfjnmdjehljaadoor", sum := "b70132c51b3606c2377fbe95ea9c0275d734f6d3ba0d41cb609bac2008de4597", func := "timesync/timesynclaw36.DecideSlave", spec := "decideSlave", unfollowed := true, recurses := true, named := ["timesync/dataset.fields"], apart := false, laid := [("timesync/dataset.fields", laid_timesync_dataset_fields)] }
def DecideSlaveSaid : Prop := decideSlaveRow.holds Tryd.pinned (OpenSpec.ofChange decideSlaveSpec)

/-- ITS FALSE NEIGHBOUR: 'it returns false'. Refute it at one input. -/
def decideSlaveWrong : ChangeSpec := { name := "decideSlave", fn := fun _ => fun
  | [d1, d2] => { results := [.lit (.bool false)], args := [d1, d2] }
  | _ => none }
def DecideSlaveWrongFalsely : Prop := decideSlaveRow.holds Tryd.pinned (OpenSpec.ofChange decideSlaveWrong)

/-- 'timesynclaw36.DecideAlone': WHATEVER THE INPUT: true; the input reads as it did. -/
def decideAloneSpec : ChangeSpec := { name := "decideAlone", fn := fun _ => fun
  | [d1, d2] => { results := [.lit (.bool true)], args := [d1, d2] }
  | _ => none }
def decideAloneRow : OpenClaim := { program := "ythbfjnmdjehljaadoor", sum := "b70132c51b3606c2377fbe95ea9c0275d734f6d3ba0d41cb609bac2008de4597", func := "timesync/timesynclaw36.DecideAlone", spec := "decideAlone", unfollowed := true, recurses := true, named := ["timesync/dataset.fields"], apart := false, laid := [("timesync/dataset.fields", laid_timesync_dataset_fields)] }
def DecideAloneSaid : Prop := decideAloneRow.holds Tryd.pinned (OpenSpec.ofChange decideAloneSpec)

/-- ITS FALSE NEIGHBOUR: 'it returns false'. Refute it at one input. -/
def decideAloneWrong : ChangeSpec := { name := "decideAlone", fn := fun _ => fun
  | [d1, d2] => { results := [.lit (.bool false)], args := [d1, d2] }
  | _ => none }
def DecideAloneWrongFalsely : Prop := decideAloneRow.holds Tryd.pinned (OpenSpec.ofChange decideAloneWrong)

/-- 'timesynclaw36.DecideFollows': WHATEVER THE INPUT: true; the input reads as it did. -/
def decideFollowsSpec : ChangeSpec := { name := "decideFollows", fn := fun _ => fun
  | [d1, d2] => { results := [.lit (.bool true)], args := [d1, d2] }
  | _ => none }
def decideFollowsRow : OpenClaim := { program := "ythbfjnmdjehljaadoor", sum := "b70132c51b3606c2377fbe95ea9c0275d734f6d3ba0d41cb609bac2008de4597", func := "timesync/timesynclaw36.DecideFollows", spec := "decideFollows", unfollowed := true, recurses := true, named := ["timesync/dataset.fields"], apart := false, laid := [("timesync/dataset.fields", laid_timesync_dataset_fields)] }
def DecideFollowsSaid : Prop := decideFollowsRow.holds Tryd.pinned (OpenSpec.ofChange decideFollowsSpec)

/-- ITS FALSE NEIGHBOUR: 'it returns false'. Refute it at one input. -/
def decideFollowsWrong : ChangeSpec := { name := "decideFollows", fn := fun _ => fun
  | [d1, d2] => { results := [.lit (.bool false)], args := [d1, d2] }
  | _ => none }
def DecideFollowsWrongFalsely : Prop := decideFollowsRow.holds Tryd.pinned (OpenSpec.ofChange decideFollowsWrong)

/- THE SECOND FORM. 'bulk': how many values and letters a reading holds, each counted each time it is reached (what is shared counts as often as it is met; a slice's spare places count too). A statement '..UptoSaid' is the law's where the arguments, and the package variables that the reading takes, are together of bulk at most 1048576: NARROWER than '..Said'. Prove '..Said' where nothing that the law and all that it calls make is longer than what came in: it says more and counts as full. Else prove '..UptoSaid'. A law counts once. -/
mutual
def uptoBulk {H : Type} : DataW H → Nat
  | .lit (.string bytes) => bytes.length + 1
  | .lit _ => 1
  | .nil => 1
  | .ptr d => uptoBulk d + 1
  | .slice elems spare => uptoBulkAll elems + uptoBulkAll spare + 1
  | .agg parts => uptoBulkAll parts + 1
  | .iface _ d => uptoBulk d + 1
  | .map entries => uptoBulkEntries entries + 1
  | .held _ => 1
def uptoBulkAll {H : Type} : List (DataW H) → Nat
  | [] => 0
  | d :: r => uptoBulk d + uptoBulkAll r
def uptoBulkEntries {H : Type} : List (Lit × DataW H) → Nat
  | [] => 0
  | x :: r => uptoBulkEntry x + uptoBulkEntries r
def uptoBulkEntry {H : Type} : Lit × DataW H → Nat
  | (.string bytes, d) => bytes.length + uptoBulk d + 1
  | (_, d) => uptoBulk d + 1
 end
def uptoSmall : (H : Type) → List (DataW H) → Bool := fun _ ds => decide (uptoBulkAll ds ≤ 1048576)
def OpenSpec.upto (s : _root_.Go.ChangeSpec) : _root_.Go.OpenSpec := { _root_.Go.OpenSpec.ofChange s with cond := some uptoSmall }

/-- 'timesynclaw36.DecideCodes', WHERE WHAT IT READS IS OF BULK AT MOST 1048576: true; the input reads as it did. -/
def decideCodesUptoRow : OpenClaim := { program := "ythbfjnmdjehljaadoor", sum := "b70132c51b3606c2377fbe95ea9c0275d734f6d3ba0d41cb609bac2008de4597", func := "timesync/timesynclaw36.DecideCodes", spec := "decideCodes", unfollowed := true, recurses := true, named := ["timesync/dataset.fields"], apart := false, laid := [("timesync/dataset.fields", laid_timesync_dataset_fields)], narrowed := true }
def DecideCodesUptoSaid : Prop := decideCodesUptoRow.holds Tryd.pinned (OpenSpec.upto decideCodesSpec)

/-- 'timesynclaw36.DecideMasters', WHERE WHAT IT READS IS OF BULK AT MOST 1048576: true; the input reads as it did. -/
def decideMastersUptoRow : OpenClaim := { program := "ythbfjnmdjehljaadoor", sum := "b70132c51b3606c2377fbe95ea9c0275d734f6d3ba0d41cb609bac2008de4597", func := "timesync/timesynclaw36.DecideMasters", spec := "decideMasters", unfollowed := true, recurses := true, named := ["timesync/dataset.fields"], apart := false, laid := [("timesync/dataset.fields", laid_timesync_dataset_fields)], narrowed := true }
def DecideMastersUptoSaid : Prop := decideMastersUptoRow.holds Tryd.pinned (OpenSpec.upto decideMastersSpec)

/-- 'timesynclaw36.DecideSlave', WHERE WHAT IT READS IS OF BULK AT MOST 1048576: true; the input reads as it did. -/
def decideSlaveUptoRow : OpenClaim := { program := "ythbfjnmdjehljaadoor", sum := "b70132c51b3606c2377fbe95ea9c0275d734f6d3ba0d41cb609bac2008de4597", func := "timesync/timesynclaw36.DecideSlave", spec := "decideSlave", unfollowed := true, recurses := true, named := ["timesync/dataset.fields"], apart := false, laid := [("timesync/dataset.fields", laid_timesync_dataset_fields)], narrowed := true }
def DecideSlaveUptoSaid : Prop := decideSlaveUptoRow.holds Tryd.pinned (OpenSpec.upto decideSlaveSpec)

/-- 'timesynclaw36.DecideAlone', WHERE WHAT IT READS IS OF BULK AT MOST 1048576: true; the input reads as it did. -/
def decideAloneUptoRow : OpenClaim := { program := "ythbfjnmdjehljaadoor", sum := "b70132c51b3606c2377fbe95ea9c0275d734f6d3ba0d41cb609bac2008de4597", func := "timesync/timesynclaw36.DecideAlone", spec := "decideAlone", unfollowed := true, recurses := true, named := ["timesync/dataset.fields"], apart := false, laid := [("timesync/dataset.fields", laid_timesync_dataset_fields)], narrowed := true }
def DecideAloneUptoSaid : Prop := decideAloneUptoRow.holds Tryd.pinned (OpenSpec.upto decideAloneSpec)

/-- 'timesynclaw36.DecideFollows', WHERE WHAT IT READS IS OF BULK AT MOST 1048576: true; the input reads as it did. -/
def decideFollowsUptoRow : OpenClaim := { program := "ythbfjnmdjehljaadoor", sum := "b70132c51b3606c2377fbe95ea9c0275d734f6d3ba0d41cb609bac2008de4597", func := "timesync/timesynclaw36.DecideFollows", spec := "decideFollows", unfollowed := true, recurses := true, named := ["timesync/dataset.fields"], apart := false, laid := [("timesync/dataset.fields", laid_timesync_dataset_fields)], narrowed := true }
def DecideFollowsUptoSaid : Prop := decideFollowsUptoRow.holds Tryd.pinned (OpenSpec.upto decideFollowsSpec)

end Rows
end Go.Proofs.YthbfjnmdjehljaaDoor
