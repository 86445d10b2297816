/-
  NARROWER THAN 'FOR EVERY INPUT', by the rows' own cells (each row's printed sentence says how): PortNexts: laid · PortRuns: laid · PortEnters: laid · PortLeaves: laid · PortDecides: laid · PortNames: laid · PortJoins: laid.
  DERIVED. THE GIVEN ROWS OF THIS SEAT. 7 by the template 'for every input the law returns true; each argument reads behind the call as it read before'; 0 by the template 'total and deterministic' (their statements: YtbfokncailhdoaaDoorTotals.lean).
  GIVEN WITH THE SEED: the statements are not yours to turn. If you find one false, say at which input.
  Laid BY PROGRAM, IN A SANDBOX (cutbox-rows.mjs): the forced cells as the released guide's own fill.sh prints them over the translation 105d4468d734c245… (all of the seat's roots in one cut). By AI agents, Wed Nov 11 2026. No macro, syntax, notation, axiom, sorry.
-/
import Derived.Test.YtbfokncailhdoaaDoorChecked
import GoSem.Claim
import GoSem.ClaimJoined
import GoSem.ClaimMapViews
import Derived.JoinedTies
import Derived.KernelRfl
namespace Go.Proofs.YtbfokncailhdoaaDoor
/- THE CELL 'sum', in the pinned program and in every row, IS THE sha256 OF THE DUMP (.gsa) THAT YtbfokncailhdoaaDoorProg.lean LOADS. Nothing in Lean hashes anything: it is a label: what it is worth is what the hold of that sum in a sandbox is worth. -/
noncomputable def Tryd.pinned : Pinned := { name := "ytbfokncailhdoaadoor", sum := "105d4468d734c245955b73c50d3fb9a8fcb179fd27e064a76ee91cde7dba2d9b", checked := Tryd.checked }
namespace Rows
def none {H : Type} : Left H := { results := [], args := [] }

/- WHAT THE LISTED PACKAGE-LEVEL VARIABLES READ AS WHEN THE CALL BEGINS. Each datum BY PROGRAM (the guide's laid-datum.mjs) off the statement by which the dump's own 'gosem.cut.vars' lays the variable. In a bare row this is a premise. The card (YtbfokncailhdoaaDoorCards.lean) ties it to the program's text. -/
def laid_timesync_port_table {H : Type} : DataW H := .agg [.agg [.lit (.int .i64 0), .lit (.int .i64 1), .lit (.int .i64 1), .lit (.int .i64 1), .lit (.int .i64 1), .lit (.int .i64 1), .lit (.int .i64 1), .lit (.int .i64 1), .lit (.int .i64 1), .lit (.int .i64 1)], .agg [.lit (.int .i64 0), .lit (.int .i64 4), .lit (.int .i64 2), .lit (.int .i64 3), .lit (.int .i64 4), .lit (.int .i64 5), .lit (.int .i64 6), .lit (.int .i64 7), .lit (.int .i64 8), .lit (.int .i64 9)], .agg [.lit (.int .i64 0), .lit (.int .i64 2), .lit (.int .i64 2), .lit (.int .i64 3), .lit (.int .i64 2), .lit (.int .i64 2), .lit (.int .i64 2), .lit (.int .i64 2), .lit (.int .i64 2), .lit (.int .i64 2)], .agg [.lit (.int .i64 0), .lit (.int .i64 1), .lit (.int .i64 1), .lit (.int .i64 3), .lit (.int .i64 4), .lit (.int .i64 5), .lit (.int .i64 6), .lit (.int .i64 7), .lit (.int .i64 8), .lit (.int .i64 9)], .agg [.lit (.int .i64 0), .lit (.int .i64 3), .lit (.int .i64 3), .lit (.int .i64 3), .lit (.int .i64 3), .lit (.int .i64 3), .lit (.int .i64 3), .lit (.int .i64 3), .lit (.int .i64 3), .lit (.int .i64 3)], .agg [.lit (.int .i64 0), .lit (.int .i64 1), .lit (.int .i64 2), .lit (.int .i64 1), .lit (.int .i64 4), .lit (.int .i64 5), .lit (.int .i64 6), .lit (.int .i64 7), .lit (.int .i64 8), .lit (.int .i64 9)], .agg [.lit (.int .i64 0), .lit (.int .i64 1), .lit (.int .i64 2), .lit (.int .i64 3), .lit (.int .i64 6), .lit (.int .i64 5), .lit (.int .i64 6), .lit (.int .i64 6), .lit (.int .i64 6), .lit (.int .i64 6)], .agg [.lit (.int .i64 0), .lit (.int .i64 1), .lit (.int .i64 2), .lit (.int .i64 3), .lit (.int .i64 4), .lit (.int .i64 6), .lit (.int .i64 6), .lit (.int .i64 7), .lit (.int .i64 8), .lit (.int .i64 9)], .agg [.lit (.int .i64 0), .lit (.int .i64 1), .lit (.int .i64 2), .lit (.int .i64 3), .lit (.int .i64 4), .lit (.int .i64 5), .lit (.int .i64 6), .lit (.int .i64 7), .lit (.int .i64 9), .lit (.int .i64 9)], .agg [.lit (.int .i64 0), .lit (.int .i64 1), .lit (.int .i64 2), .lit (.int .i64 3), .lit (.int .i64 4), .lit (.int .i64 5), .lit (.int .i64 6), .lit (.int .i64 7), .lit (.int .i64 8), .lit (.int .i64 8)], .agg [.lit (.int .i64 0), .lit (.int .i64 1), .lit (.int .i64 2), .lit (.int .i64 3), .lit (.int .i64 4), .lit (.int .i64 5), .lit (.int .i64 6), .lit (.int .i64 7), .lit (.int .i64 8), .lit (.int .i64 9)], .agg [.lit (.int .i64 0), .lit (.int .i64 1), .lit (.int .i64 2), .lit (.int .i64 3), .lit (.int .i64 5), .lit (.int .i64 5), .lit (.int .i64 6), .lit (.int .i64 5), .lit (.int .i64 5), .lit (.int .i64 5)], .agg [.lit (.int .i64 0), .lit (.int .i64 1), .lit (.int .i64 2), .lit (.int .i64 3), .lit (.int .i64 5), .lit (.int .i64 5), .lit (.int .i64 6), .lit (.int .i64 5), .lit (.int .i64 5), .lit (.int .i64 5)], .agg [.lit (.int .i64 0), .lit (.int .i64 1), .lit (.int .i64 2), .lit (.int .i64 3), .lit (.int .i64 5), .lit (.int .i64 5), .lit (.int .i64 6), .lit (.int .i64 5), .lit (.int .i64 5), .lit (.int .i64 5)], .agg [.lit (.int .i64 0), .lit (.int .i64 1), .lit (.int .i64 2), .lit (.int .i64 3), .lit (.int .i64 7), .lit (.int .i64 7), .lit (.int .i64 7), .lit (.int .i64 7), .lit (.int .i64 7), .lit (.int .i64 7)], .agg [.lit (.int .i64 0), .lit (.int .i64 1), .lit (.int .i64 2), .lit (.int .i64 3), .lit (.int .i64 7), .lit (.int .i64 7), .lit (.int .i64 7), .lit (.int .i64 7), .lit (.int .i64 7), .lit (.int .i64 7)], .agg [.lit (.int .i64 0), .lit (.int .i64 1), .lit (.int .i64 2), .lit (.int .i64 3), .lit (.int .i64 8), .lit (.int .i64 8), .lit (.int .i64 8), .lit (.int .i64 8), .lit (.int .i64 8), .lit (.int .i64 8)]]
def laid_timesync_port_names {H : Type} : DataW H := .agg [.lit (.string []), .lit (.string [105, 110, 105, 116, 105, 97, 108, 105, 122, 105, 110, 103]), .lit (.string [102, 97, 117, 108, 116, 121]), .lit (.string [100, 105, 115, 97, 98, 108, 101, 100]), .lit (.string [108, 105, 115, 116, 101, 110, 105, 110, 103]), .lit (.string [112, 114, 101, 109, 97, 115, 116, 101, 114]), .lit (.string [109, 97, 115, 116, 101, 114]), .lit (.string [112, 97, 115, 115, 105, 118, 101]), .lit (.string [117, 110, 99, 97, 108, 105, 98, 114, 97, 116, 101, 100]), .lit (.string [115, 108, 97, 118, 101])]

/-- 'timesynclaw37.PortNexts': WHATEVER THE INPUT: true; the input reads as it did. -/
def portNextsSpec : ChangeSpec := { name := "portNexts", fn := fun _ => fun
  | [d1, d2, d3] => { results := [.lit (.bool true)], args := [d1, d2, d3] }
  | _ => none }
def portNextsRow : OpenClaim := { program := "ytbfokncailhdoaadoor", sum := "105d4468d734c245955b73c50d3fb9a8fcb179fd27e064a76ee91cde7dba2d9b", func := "timesync/timesynclaw37.PortNexts", spec := "portNexts", named := ["timesync/port.table", "timesync/port.names"], apart := false, laid := [("timesync/port.table", laid_timesync_port_table), ("timesync/port.names", laid_timesync_port_names)] }
def PortNextsSaid : Prop := portNextsRow.holds Tryd.pinned (OpenSpec.ofChange portNextsSpec)

/-- ITS FALSE NEIGHBOUR: 'it returns false'. Refute it at one input. -/
def portNextsWrong : ChangeSpec := { name := "portNexts", fn := fun _ => fun
  | [d1, d2, d3] => { results := [.lit (.bool false)], args := [d1, d2, d3] }
  | _ => none }
def PortNextsWrongFalsely : Prop := portNextsRow.holds Tryd.pinned (OpenSpec.ofChange portNextsWrong)

/-- 'timesynclaw37.PortRuns': WHATEVER THE INPUT: true; the input reads as it did. -/
def portRunsSpec : ChangeSpec := { name := "portRuns", fn := fun _ => fun
  | [d1, d2] => { results := [.lit (.bool true)], args := [d1, d2] }
  | _ => none }
def portRunsRow : OpenClaim := { program := "ytbfokncailhdoaadoor", sum := "105d4468d734c245955b73c50d3fb9a8fcb179fd27e064a76ee91cde7dba2d9b", func := "timesync/timesynclaw37.PortRuns", spec := "portRuns", named := ["timesync/port.table", "timesync/port.names"], apart := false, laid := [("timesync/port.table", laid_timesync_port_table), ("timesync/port.names", laid_timesync_port_names)] }
def PortRunsSaid : Prop := portRunsRow.holds Tryd.pinned (OpenSpec.ofChange portRunsSpec)

/-- ITS FALSE NEIGHBOUR: 'it returns false'. Refute it at one input. -/
def portRunsWrong : ChangeSpec := { name := "portRuns", fn := fun _ => fun
  | [d1, d2] => { results := [.lit (.bool false)], args := [d1, d2] }
  | _ => none }
def PortRunsWrongFalsely : Prop := portRunsRow.holds Tryd.pinned (OpenSpec.ofChange portRunsWrong)

/-- 'timesynclaw37.PortEnters': WHATEVER THE INPUT: true; the input reads as it did. -/
def portEntersSpec : ChangeSpec := { name := "portEnters", fn := fun _ => fun
  | [d1, d2] => { results := [.lit (.bool true)], args := [d1, d2] }
  | _ => none }
def portEntersRow : OpenClaim := { program := "ytbfokncailhdoaadoor", sum := "105d4468d734c245955b73c50d3fb9a8fcb179fd27e064a76ee91cde7dba2d9b", func := "timesync/timesynclaw37.PortEnters", spec := "portEnters", named := ["timesync/port.table", "timesync/port.names"], apart := false, laid := [("timesync/port.table", laid_timesync_port_table), ("timesync/port.names", laid_timesync_port_names)] }
def PortEntersSaid : Prop := portEntersRow.holds Tryd.pinned (OpenSpec.ofChange portEntersSpec)

/-- ITS FALSE NEIGHBOUR: 'it returns false'. Refute it at one input. -/
def portEntersWrong : ChangeSpec := { name := "portEnters", fn := fun _ => fun
  | [d1, d2] => { results := [.lit (.bool false)], args := [d1, d2] }
  | _ => none }
def PortEntersWrongFalsely : Prop := portEntersRow.holds Tryd.pinned (OpenSpec.ofChange portEntersWrong)

/-- 'timesynclaw37.PortLeaves': WHATEVER THE INPUT: true; the input reads as it did. -/
def portLeavesSpec : ChangeSpec := { name := "portLeaves", fn := fun _ => fun
  | [d1, d2] => { results := [.lit (.bool true)], args := [d1, d2] }
  | _ => none }
def portLeavesRow : OpenClaim := { program := "ytbfokncailhdoaadoor", sum := "105d4468d734c245955b73c50d3fb9a8fcb179fd27e064a76ee91cde7dba2d9b", func := "timesync/timesynclaw37.PortLeaves", spec := "portLeaves", named := ["timesync/port.table", "timesync/port.names"], apart := false, laid := [("timesync/port.table", laid_timesync_port_table), ("timesync/port.names", laid_timesync_port_names)] }
def PortLeavesSaid : Prop := portLeavesRow.holds Tryd.pinned (OpenSpec.ofChange portLeavesSpec)

/-- ITS FALSE NEIGHBOUR: 'it returns false'. Refute it at one input. -/
def portLeavesWrong : ChangeSpec := { name := "portLeaves", fn := fun _ => fun
  | [d1, d2] => { results := [.lit (.bool false)], args := [d1, d2] }
  | _ => none }
def PortLeavesWrongFalsely : Prop := portLeavesRow.holds Tryd.pinned (OpenSpec.ofChange portLeavesWrong)

/-- 'timesynclaw37.PortDecides': WHATEVER THE INPUT: true; the input reads as it did. -/
def portDecidesSpec : ChangeSpec := { name := "portDecides", fn := fun _ => fun
  | [d1, d2, d3] => { results := [.lit (.bool true)], args := [d1, d2, d3] }
  | _ => none }
def portDecidesRow : OpenClaim := { program := "ytbfokncailhdoaadoor", sum := "105d4468d734c245955b73c50d3fb9a8fcb179fd27e064a76ee91cde7dba2d9b", func := "timesync/timesynclaw37.PortDecides", spec := "portDecides", named := ["timesync/port.table", "timesync/port.names"], apart := false, laid := [("timesync/port.table", laid_timesync_port_table), ("timesync/port.names", laid_timesync_port_names)] }
def PortDecidesSaid : Prop := portDecidesRow.holds Tryd.pinned (OpenSpec.ofChange portDecidesSpec)

/-- ITS FALSE NEIGHBOUR: 'it returns false'. Refute it at one input. -/
def portDecidesWrong : ChangeSpec := { name := "portDecides", fn := fun _ => fun
  | [d1, d2, d3] => { results := [.lit (.bool false)], args := [d1, d2, d3] }
  | _ => none }
def PortDecidesWrongFalsely : Prop := portDecidesRow.holds Tryd.pinned (OpenSpec.ofChange portDecidesWrong)

/-- 'timesynclaw37.PortNames': WHATEVER THE INPUT: true; the input reads as it did. -/
def portNamesSpec : ChangeSpec := { name := "portNames", fn := fun _ => fun
  | [d1, d2] => { results := [.lit (.bool true)], args := [d1, d2] }
  | _ => none }
def portNamesRow : OpenClaim := { program := "ytbfokncailhdoaadoor", sum := "105d4468d734c245955b73c50d3fb9a8fcb179fd27e064a76ee91cde7dba2d9b", func := "timesync/timesynclaw37.PortNames", spec := "portNames", named := ["timesync/port.names", "timesync/port.table"], apart := false, laid := [("timesync/port.table", laid_timesync_port_table), ("timesync/port.names", laid_timesync_port_names)] }
def PortNamesSaid : Prop := portNamesRow.holds Tryd.pinned (OpenSpec.ofChange portNamesSpec)

/-- ITS FALSE NEIGHBOUR: 'it returns false'. Refute it at one input. -/
def portNamesWrong : ChangeSpec := { name := "portNames", fn := fun _ => fun
  | [d1, d2] => { results := [.lit (.bool false)], args := [d1, d2] }
  | _ => none }
def PortNamesWrongFalsely : Prop := portNamesRow.holds Tryd.pinned (OpenSpec.ofChange portNamesWrong)

/-- 'timesynclaw37.PortJoins': WHATEVER THE INPUT: true; the input reads as it did. -/
def portJoinsSpec : ChangeSpec := { name := "portJoins", fn := fun _ => fun
  | [d1, d2, d3] => { results := [.lit (.bool true)], args := [d1, d2, d3] }
  | _ => none }
def portJoinsRow : OpenClaim := { program := "ytbfokncailhdoaadoor", sum := "105d4468d734c245955b73c50d3fb9a8fcb179fd27e064a76ee91cde7dba2d9b", func := "timesync/timesynclaw37.PortJoins", spec := "portJoins", named := ["timesync/port.table", "timesync/port.names"], apart := false, laid := [("timesync/port.table", laid_timesync_port_table), ("timesync/port.names", laid_timesync_port_names)] }
def PortJoinsSaid : Prop := portJoinsRow.holds Tryd.pinned (OpenSpec.ofChange portJoinsSpec)

/-- ITS FALSE NEIGHBOUR: 'it returns false'. Refute it at one input. -/
def portJoinsWrong : ChangeSpec := { name := "portJoins", fn := fun _ => fun
  | [d1, d2, d3] => { results := [.lit (.bool false)], args := [d1, d2, d3] }
  | _ => none }
def PortJoinsWrongFalsely : Prop := portJoinsRow.holds Tryd.pinned (OpenSpec.ofChange portJoinsWrong)

/- THE SECOND FORM. 'bulk': how many values and letters a reading holds, each counted each time it is reached (what is shared counts as often as it is met; a slice's spare places count too). A statement '..UptoSaid' is the law's where the arguments, and the package variables that the reading takes, are together of bulk at most 1048576: NARROWER than '..Said'. Prove '..Said' where nothing that the law and all that it calls make is longer than what came in: it says more and counts as full. Else prove '..UptoSaid'. A law counts once. -/
mutual
def uptoBulk {H : Type} : DataW H → Nat
  | .lit (.string bytes) => bytes.length + 1
  | .lit _ => 1
  | .nil => 1
  | .ptr d => uptoBulk d + 1
  | .slice elems spare => uptoBulkAll elems + uptoBulkAll spare + 1
  | .agg parts => uptoBulkAll parts + 1
  | .iface _ d => uptoBulk d + 1
  | .map entries => uptoBulkEntries entries + 1
  | .held _ => 1
def uptoBulkAll {H : Type} : List (DataW H) → Nat
  | [] => 0
  | d :: r => uptoBulk d + uptoBulkAll r
def uptoBulkEntries {H : Type} : List (Lit × DataW H) → Nat
  | [] => 0
  | x :: r => uptoBulkEntry x + uptoBulkEntries r
def uptoBulkEntry {H : Type} : Lit × DataW H → Nat
  | (.string bytes, d) => bytes.length + uptoBulk d + 1
  | (_, d) => uptoBulk d + 1
 end
def uptoSmall : (H : Type) → List (DataW H) → Bool := fun _ ds => decide (uptoBulkAll ds ≤ 1048576)
def OpenSpec.upto (s : _root_.Go.ChangeSpec) : _root_.Go.OpenSpec := { _root_.Go.OpenSpec.ofChange s with cond := some uptoSmall }

/-- 'timesynclaw37.PortNexts', WHERE WHAT IT READS IS OF BULK AT MOST 1048576: true; the input reads as it did. -/
def portNextsUptoRow : OpenClaim := { program := "ytbfokncailhdoaadoor", sum := "105d4468d734c245955b73c50d3fb9a8fcb179fd27e064a76ee91cde7dba2d9b", func := "timesync/timesynclaw37.PortNexts", spec := "portNexts", named := ["timesync/port.table", "timesync/port.names"], apart := false, laid := [("timesync/port.table", laid_timesync_port_table), ("timesync/port.names", laid_timesync_port_names)], narrowed := true }
def PortNextsUptoSaid : Prop := portNextsUptoRow.holds Tryd.pinned (OpenSpec.upto portNextsSpec)

/-- 'timesynclaw37.PortRuns', WHERE WHAT IT READS IS OF BULK AT MOST 1048576: true; the input reads as it did. -/
def portRunsUptoRow : OpenClaim := { program := "ytbfokncailhdoaadoor", sum := "105d4468d734c245955b73c50d3fb9a8fcb179fd27e064a76ee91cde7dba2d9b", func := "timesync/timesynclaw37.PortRuns", spec := "portRuns", named := ["timesync/port.table", "timesync/port.names"], apart := false, laid := [("timesync/port.table", laid_timesync_port_table), ("timesync/port.names", laid_timesync_port_names)], narrowed := true }
def PortRunsUptoSaid : Prop := portRunsUptoRow.holds Tryd.pinned (OpenSpec.upto portRunsSpec)

/-- 'timesynclaw37.PortEnters', WHERE WHAT IT READS IS OF BULK AT MOST 1048576: true; the input reads as it did. -/
def portEntersUptoRow : OpenClaim := { program := "ytbfokncailhdoaadoor", sum := "105d4468d734c245955b73c50d3fb9a8fcb179fd27e064a76ee91cde7dba2d9b", func := "timesync/timesynclaw37.PortEnters", spec := "portEnters", named := ["timesync/port.table", "timesync/port.names"], apart := false, laid := [("timesync/port.table", laid_timesync_port_table), ("timesync/port.names", laid_timesync_port_names)], narrowed := true }
def PortEntersUptoSaid : Prop := portEntersUptoRow.holds Tryd.pinned (OpenSpec.upto portEntersSpec)

/-- 'timesynclaw37.PortLeaves', WHERE WHAT IT READS IS OF BULK AT MOST 1048576: true; the input reads as it did. -/
def portLeavesUptoRow : OpenClaim := { program := "ytbfokncailhdoaadoor", sum := "105d4468d734c245955b73c50d3fb9a8fcb179fd27e064a76ee91cde7dba2d9b", func := "timesync/timesynclaw37.PortLeaves", spec := "portLeaves", named := ["timesync/port.table", "timesync/port.names"], apart := false, laid := [("timesync/port.table", laid_timesync_port_table), ("timesync/port.names", laid_timesync_port_names)], narrowed := true }
def PortLeavesUptoSaid : Prop := portLeavesUptoRow.holds Tryd.pinned (OpenSpec.upto portLeavesSpec)

/-- 'timesynclaw37.PortDecides', WHERE WHAT IT READS IS OF BULK AT MOST 1048576: true; the input reads as it did. -/
def portDecidesUptoRow : OpenClaim := { program := "ytbfokncailhdoaadoor", sum := "105d4468d734c245955b73c50d3fb9a8fcb179fd27e064a76ee91cde7dba2d9b", func := "timesync/timesynclaw37.PortDecides", spec := "portDecides", named := ["timesync/port.table", "timesync/port.names"], apart := false, laid := [("timesync/port.table", laid_timesync_port_table), ("timesync/port.names", laid_timesync_port_names)], narrowed := true }
def PortDecidesUptoSaid : Prop := portDecidesUptoRow.holds Tryd.pinned (OpenSpec.upto portDecidesSpec)

/-- 'timesynclaw37.PortNames', WHERE WHAT IT READS IS OF BULK AT MOST 1048576: true; the input reads as it did. -/
def portNamesUptoRow : OpenClaim := { program := "ytbfokncailhdoaadoor", sum := "105d4468d734c245955b73c50d3fb9a8fcb179fd27e064a76ee91cde7dba2d9b", func := "timesync/timesynclaw37.PortNames", spec := "portNames", named := ["timesync/port.names", "timesync/port.table"], apart := false, laid := [("timesync/port.table", laid_timesync_port_table), ("timesync/port.names", laid_timesync_port_names)], narrowed := true }
def PortNamesUptoSaid : Prop := portNamesUptoRow.holds Tryd.pinned (OpenSpec.upto portNamesSpec)

/-- 'timesynclaw37.PortJoins', WHERE WHAT IT READS IS OF BULK AT MOST 1048576: true; the input reads as it did. -/
def portJoinsUptoRow : OpenClaim := { program := "ytbfokncailhdoaadoor", sum := "105d4468d734c245955b73c50d3fb9a8fcb179fd27e064a76ee91cde7dba2d9b", func := "timesync/timesynclaw37.PortJoins", spec := "portJoins", named := ["timesync/port.table", "timesync/port.names"], apart := false, laid := [("timesync/port.table", laid_timesync_port_table), ("timesync/port.names", laid_timesync_port_names)], narrowed := true }
def PortJoinsUptoSaid : Prop := portJoinsUptoRow.holds Tryd.pinned (OpenSpec.upto portJoinsSpec)

end Rows
end Go.Proofs.YtbfokncailhdoaaDoor
