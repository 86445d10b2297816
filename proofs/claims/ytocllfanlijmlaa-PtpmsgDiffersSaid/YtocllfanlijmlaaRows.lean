/-
  No cell of these rows narrows 'for every input' (looked for: loops, veiled, ifaces, maps, wideKeys, modest, calm, conditions, laid).
  DERIVED. THE GIVEN ROWS OF THIS SEAT. 6 by the template 'for every input the law returns true; each argument reads behind the call as it read before'; 0 by the template 'total and deterministic' (their statements: YtocllfanlijmlaaTotals.lean).
  GIVEN WITH THE SEED: the statements are not yours to turn. If you find one false, say at which input.
  Laid BY PROGRAM, IN A SANDBOX (cutbox-rows.mjs): the forced cells as the released guide's own fill.sh prints them over the translation 23c8b3a749dc4420… (all of the seat's roots in one cut). By AI agents, Wed Nov 11 2026. No macro, syntax, notation, axiom, sorry.
-/
import Derived.Test.YtocllfanlijmlaaChecked
import GoSem.Claim
import GoSem.ClaimJoined
import GoSem.ClaimMapViews
import Derived.JoinedTies
import Derived.KernelRfl
namespace Go.Proofs.Ytocllfanlijmlaa
/- THE CELL 'sum', in the pinned program and in every row, IS THE sha256 OF THE DUMP (.gsa) THAT YtocllfanlijmlaaProg.lean LOADS. Nothing in Lean hashes anything: it is a label: what it is worth is what the hold of that sum in a sandbox is worth. -/
noncomputable def Try.pinned : Pinned := { name := "ytocllfanlijmlaa", sum := "23c8b3a749dc44204faebb386d9de0f1f65bcb1140a64a5aba51f460e466b23f", checked := Try.checked }
namespace Rows
def none {H : Type} : Left H := { results := [], args := [] }

/-- 'timesynclaw33.PtpmsgChecks': WHATEVER THE INPUT: true; the input reads as it did. -/
def ptpmsgChecksSpec : ChangeSpec := { name := "ptpmsgChecks", fn := fun _ => fun
  | [d1, d2] => { results := [.lit (.bool true)], args := [d1, d2] }
  | _ => none }
def ptpmsgChecksRow : OpenClaim := { program := "ytocllfanlijmlaa", sum := "23c8b3a749dc44204faebb386d9de0f1f65bcb1140a64a5aba51f460e466b23f", func := "timesync/timesynclaw33.PtpmsgChecks", spec := "ptpmsgChecks", unfollowed := true, recurses := true, apart := false }
def PtpmsgChecksSaid : Prop := ptpmsgChecksRow.holds Try.pinned (OpenSpec.ofChange ptpmsgChecksSpec)

/-- ITS FALSE NEIGHBOUR: 'it returns false'. Refute it at one input. -/
def ptpmsgChecksWrong : ChangeSpec := { name := "ptpmsgChecks", fn := fun _ => fun
  | [d1, d2] => { results := [.lit (.bool false)], args := [d1, d2] }
  | _ => none }
def PtpmsgChecksWrongFalsely : Prop := ptpmsgChecksRow.holds Try.pinned (OpenSpec.ofChange ptpmsgChecksWrong)

/-- 'timesynclaw33.PtpmsgEncodes': WHATEVER THE INPUT: true; the input reads as it did. -/
def ptpmsgEncodesSpec : ChangeSpec := { name := "ptpmsgEncodes", fn := fun _ => fun
  | [d] => { results := [.lit (.bool true)], args := [d] }
  | _ => none }
def ptpmsgEncodesRow : OpenClaim := { program := "ytocllfanlijmlaa", sum := "23c8b3a749dc44204faebb386d9de0f1f65bcb1140a64a5aba51f460e466b23f", func := "timesync/timesynclaw33.PtpmsgEncodes", spec := "ptpmsgEncodes", unfollowed := true, recurses := true, apart := false }
def PtpmsgEncodesSaid : Prop := ptpmsgEncodesRow.holds Try.pinned (OpenSpec.ofChange ptpmsgEncodesSpec)

/-- ITS FALSE NEIGHBOUR: 'it returns false'. Refute it at one input. -/
def ptpmsgEncodesWrong : ChangeSpec := { name := "ptpmsgEncodes", fn := fun _ => fun
  | [d] => { results := [.lit (.bool false)], args := [d] }
  | _ => none }
def PtpmsgEncodesWrongFalsely : Prop := ptpmsgEncodesRow.holds Try.pinned (OpenSpec.ofChange ptpmsgEncodesWrong)

/-- 'timesynclaw33.PtpmsgDecodes': WHATEVER THE INPUT: true; the input reads as it did. -/
def ptpmsgDecodesSpec : ChangeSpec := { name := "ptpmsgDecodes", fn := fun _ => fun
  | [d] => { results := [.lit (.bool true)], args := [d] }
  | _ => none }
def ptpmsgDecodesRow : OpenClaim := { program := "ytocllfanlijmlaa", sum := "23c8b3a749dc44204faebb386d9de0f1f65bcb1140a64a5aba51f460e466b23f", func := "timesync/timesynclaw33.PtpmsgDecodes", spec := "ptpmsgDecodes", unfollowed := true, recurses := true, apart := false }
def PtpmsgDecodesSaid : Prop := ptpmsgDecodesRow.holds Try.pinned (OpenSpec.ofChange ptpmsgDecodesSpec)

/-- ITS FALSE NEIGHBOUR: 'it returns false'. Refute it at one input. -/
def ptpmsgDecodesWrong : ChangeSpec := { name := "ptpmsgDecodes", fn := fun _ => fun
  | [d] => { results := [.lit (.bool false)], args := [d] }
  | _ => none }
def PtpmsgDecodesWrongFalsely : Prop := ptpmsgDecodesRow.holds Try.pinned (OpenSpec.ofChange ptpmsgDecodesWrong)

/-- 'timesynclaw33.PtpmsgCanonical': WHATEVER THE INPUT: true; the input reads as it did. -/
def ptpmsgCanonicalSpec : ChangeSpec := { name := "ptpmsgCanonical", fn := fun _ => fun
  | [d] => { results := [.lit (.bool true)], args := [d] }
  | _ => none }
def ptpmsgCanonicalRow : OpenClaim := { program := "ytocllfanlijmlaa", sum := "23c8b3a749dc44204faebb386d9de0f1f65bcb1140a64a5aba51f460e466b23f", func := "timesync/timesynclaw33.PtpmsgCanonical", spec := "ptpmsgCanonical", unfollowed := true, recurses := true, apart := false }
def PtpmsgCanonicalSaid : Prop := ptpmsgCanonicalRow.holds Try.pinned (OpenSpec.ofChange ptpmsgCanonicalSpec)

/-- ITS FALSE NEIGHBOUR: 'it returns false'. Refute it at one input. -/
def ptpmsgCanonicalWrong : ChangeSpec := { name := "ptpmsgCanonical", fn := fun _ => fun
  | [d] => { results := [.lit (.bool false)], args := [d] }
  | _ => none }
def PtpmsgCanonicalWrongFalsely : Prop := ptpmsgCanonicalRow.holds Try.pinned (OpenSpec.ofChange ptpmsgCanonicalWrong)

/-- 'timesynclaw33.PtpmsgDiffers': WHATEVER THE INPUT: true; the input reads as it did. -/
def ptpmsgDiffersSpec : ChangeSpec := { name := "ptpmsgDiffers", fn := fun _ => fun
  | [d1, d2] => { results := [.lit (.bool true)], args := [d1, d2] }
  | _ => none }
def ptpmsgDiffersRow : OpenClaim := { program := "ytocllfanlijmlaa", sum := "23c8b3a749dc44204faebb386d9de0f1f65bcb1140a64a5aba51f460e466b23f", func := "timesync/timesynclaw33.PtpmsgDiffers", spec := "ptpmsgDiffers", unfollowed := true, recurses := true, apart := false }
def PtpmsgDiffersSaid : Prop := ptpmsgDiffersRow.holds Try.pinned (OpenSpec.ofChange ptpmsgDiffersSpec)

/-- ITS FALSE NEIGHBOUR: 'it returns false'. Refute it at one input. -/
def ptpmsgDiffersWrong : ChangeSpec := { name := "ptpmsgDiffers", fn := fun _ => fun
  | [d1, d2] => { results := [.lit (.bool false)], args := [d1, d2] }
  | _ => none }
def PtpmsgDiffersWrongFalsely : Prop := ptpmsgDiffersRow.holds Try.pinned (OpenSpec.ofChange ptpmsgDiffersWrong)

/-- 'timesynclaw33.PtpmsgBack': WHATEVER THE INPUT: true; the input reads as it did. -/
def ptpmsgBackSpec : ChangeSpec := { name := "ptpmsgBack", fn := fun _ => fun
  | [d1, d2] => { results := [.lit (.bool true)], args := [d1, d2] }
  | _ => none }
def ptpmsgBackRow : OpenClaim := { program := "ytocllfanlijmlaa", sum := "23c8b3a749dc44204faebb386d9de0f1f65bcb1140a64a5aba51f460e466b23f", func := "timesync/timesynclaw33.PtpmsgBack", spec := "ptpmsgBack", unfollowed := true, recurses := true, apart := false }
def PtpmsgBackSaid : Prop := ptpmsgBackRow.holds Try.pinned (OpenSpec.ofChange ptpmsgBackSpec)

/-- ITS FALSE NEIGHBOUR: 'it returns false'. Refute it at one input. -/
def ptpmsgBackWrong : ChangeSpec := { name := "ptpmsgBack", fn := fun _ => fun
  | [d1, d2] => { results := [.lit (.bool false)], args := [d1, d2] }
  | _ => none }
def PtpmsgBackWrongFalsely : Prop := ptpmsgBackRow.holds Try.pinned (OpenSpec.ofChange ptpmsgBackWrong)

/- THE SECOND FORM. 'bulk': how many values and letters a reading holds, each counted each time it is reached (what is shared counts as often as it is met; a slice's spare places count too). A statement '..UptoSaid' is the law's where the arguments, and the package variables that the reading takes, are together of bulk at most 1048576: NARROWER than '..Said'. Prove '..Said' where nothing that the law and all that it calls make is longer than what came in: it says more and counts as full. Else prove '..UptoSaid'. A law counts once. -/
mutual
def uptoBulk {H : Type} : DataW H → Nat
  | .lit (.string bytes) => bytes.length + 1
  | .lit _ => 1
  | .nil => 1
  | .ptr d => uptoBulk d + 1
  | .slice elems spare => uptoBulkAll elems + uptoBulkAll spare + 1
  | .agg parts => uptoBulkAll parts + 1
  | .iface _ d => uptoBulk d + 1
  | .map entries => uptoBulkEntries entries + 1
  | .held _ => 1
def uptoBulkAll {H : Type} : List (DataW H) → Nat
  | [] => 0
  | d :: r => uptoBulk d + uptoBulkAll r
def uptoBulkEntries {H : Type} : List (Lit × DataW H) → Nat
  | [] => 0
  | x :: r => uptoBulkEntry x + uptoBulkEntries r
def uptoBulkEntry {H : Type} : Lit × DataW H → Nat
  | (.string bytes, d) => bytes.length + uptoBulk d + 1
  | (_, d) => uptoBulk d + 1
 end
def uptoSmall : (H : Type) → List (DataW H) → Bool := fun _ ds => decide (uptoBulkAll ds ≤ 1048576)
def OpenSpec.upto (s : _root_.Go.ChangeSpec) : _root_.Go.OpenSpec := { _root_.Go.OpenSpec.ofChange s with cond := some uptoSmall }

/-- 'timesynclaw33.PtpmsgChecks', WHERE WHAT IT READS IS OF BULK AT MOST 1048576: true; the input reads as it did. -/
def ptpmsgChecksUptoRow : OpenClaim := { program := "ytocllfanlijmlaa", sum := "23c8b3a749dc44204faebb386d9de0f1f65bcb1140a64a5aba51f460e466b23f", func := "timesync/timesynclaw33.PtpmsgChecks", spec := "ptpmsgChecks", unfollowed := true, recurses := true, apart := false, narrowed := true }
def PtpmsgChecksUptoSaid : Prop := ptpmsgChecksUptoRow.holds Try.pinned (OpenSpec.upto ptpmsgChecksSpec)

/-- 'timesynclaw33.PtpmsgEncodes', WHERE WHAT IT READS IS OF BULK AT MOST 1048576: true; the input reads as it did. -/
def ptpmsgEncodesUptoRow : OpenClaim := { program := "ytocllfanlijmlaa", sum := "23c8b3a749dc44204faebb386d9de0f1f65bcb1140a64a5aba51f460e466b23f", func := "timesync/timesynclaw33.PtpmsgEncodes", spec := "ptpmsgEncodes", unfollowed := true, recurses := true, apart := false, narrowed := true }
def PtpmsgEncodesUptoSaid : Prop := ptpmsgEncodesUptoRow.holds Try.pinned (OpenSpec.upto ptpmsgEncodesSpec)

/-- 'timesynclaw33.PtpmsgDecodes', WHERE WHAT IT READS IS OF BULK AT MOST 1048576: true; the input reads as it did. -/
def ptpmsgDecodesUptoRow : OpenClaim := { program := "ytocllfanlijmlaa", sum := "23c8b3a749dc44204faebb386d9de0f1f65bcb1140a64a5aba51f460e466b23f", func := "timesync/timesynclaw33.PtpmsgDecodes", spec := "ptpmsgDecodes", unfollowed := true, recurses := true, apart := false, narrowed := true }
def PtpmsgDecodesUptoSaid : Prop := ptpmsgDecodesUptoRow.holds Try.pinned (OpenSpec.upto ptpmsgDecodesSpec)

/-- 'timesynclaw33.PtpmsgCanonical', WHERE WHAT IT READS IS OF BULK AT MOST 1048576: true; the input reads as it did. -/
def ptpmsgCanonicalUptoRow : OpenClaim := { program := "ytocllfanlijmlaa", sum := "23c8b3a749dc44204faebb386d9de0f1f65bcb1140a64a5aba51f460e466b23f", func := "timesync/timesynclaw33.PtpmsgCanonical", spec := "ptpmsgCanonical", unfollowed := true, recurses := true, apart := false, narrowed := true }
def PtpmsgCanonicalUptoSaid : Prop := ptpmsgCanonicalUptoRow.holds Try.pinned (OpenSpec.upto ptpmsgCanonicalSpec)

/-- 'timesynclaw33.PtpmsgDiffers', WHERE WHAT IT READS IS OF BULK AT MOST 1048576: true; the input reads as it did. -/
def ptpmsgDiffersUptoRow : OpenClaim := { program := "ytocllfanlijmlaa", sum := "23c8b3a749dc44204faebb386d9de0f1f65bcb1140a64a5aba51f460e466b23f", func := "timesync/timesynclaw33.PtpmsgDiffers", spec := "ptpmsgDiffers", unfollowed := true, recurses := true, apart := false, narrowed := true }
def PtpmsgDiffersUptoSaid : Prop := ptpmsgDiffersUptoRow.holds Try.pinned (OpenSpec.upto ptpmsgDiffersSpec)

/-- 'timesynclaw33.PtpmsgBack', WHERE WHAT IT READS IS OF BULK AT MOST 1048576: true; the input reads as it did. -/
def ptpmsgBackUptoRow : OpenClaim := { program := "ytocllfanlijmlaa", sum := "23c8b3a749dc44204faebb386d9de0f1f65bcb1140a64a5aba51f460e466b23f", func := "timesync/timesynclaw33.PtpmsgBack", spec := "ptpmsgBack", unfollowed := true, recurses := true, apart := false, narrowed := true }
def PtpmsgBackUptoSaid : Prop := ptpmsgBackUptoRow.holds Try.pinned (OpenSpec.upto ptpmsgBackSpec)

end Rows
end Go.Proofs.Ytocllfanlijmlaa
