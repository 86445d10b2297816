/- What the rows of layer 34 share: the table of package dataset as the listed variable lays it. -/
import Derived.Test.YtljcmjcfebpkoaaDoorDsOf
import Derived.Test.YtljcmjcfebpkoaaDoorTie
import Derived.Test.YtljcmjcfebpkoaaDoorCards
namespace Go.Proofs.YtljcmjcfebpkoaaDoor
open Go Go.ChangeShapes Go.WideShapes Go.ChangeAt Go.RowKit SX
set_option linter.unusedVariables false

def laidL : List (String × DataW Unit) := [("timesync/dataset.fields", Rows.laid_timesync_dataset_fields)]
theorem own : ownKnob Tryd.prog.godebug = none := by kernel_rfl
theorem laidOut : laidOutB Tryd.prog = true := by kernel_rfl
theorem gTab : Tryd.prog.globalNamed "timesync/dataset.fields" = some 0 := by kernel_rfl
theorem tTab : (Tryd.prog.globals[0]?).map (·.type) = some 62 := by kernel_rfl
theorem okTab : arrOK Tryd.prog 3 62 = true := by kernel_rfl
def cells34 : List Value := [.int .i64 0, .int .i64 1, .int .i64 2, .int .i64 3, .int .i64 4, .int .i64 5, .int .i64 6, .int .i64 7, .int .i64 8, .int .i64 9, .int .i64 10, .int .i64 7, .int .i64 10, .int .i64 8]
theorem dTab : flatD (H := Unit) Rows.laid_timesync_dataset_fields = some cells34 := by kernel_rfl
theorem tabs_of_laid {W : World} (h : laidMetH Tryd.prog laidL W) : TabsIn tabs34 W := by
  rw [MakeChecks.laidMetH_plain _ _ _ (by kernel_rfl)] at h
  intro p hp i v hv
  obtain rfl : p = (0, cells34) := by simpa [tabs34, cells34] using hp
  exact laid_cell h (List.mem_cons_self ..) gTab tTab okTab dTab i v hv
/-- The door's own heap meets the condition. -/
theorem door_met (os : Os) (args : Array Value) : laidMetH Tryd.prog laidL ((World.doorLaid Tryd.prog 400 os).forCall (fun _ _ => 0) ⟨#[], args, []⟩).memory :=
  laidMetH_of_parts3 (fuel := 8) (laidMet_of_run' 8 (by kernel_rfl) (by kernel_rfl)) (by kernel_rfl) (by kernel_rfl)
end Go.Proofs.YtljcmjcfebpkoaaDoor
