/- What the laws of layer 34 that the executor proves share: the table of package dataset, and the examples. -/
import Derived.Test.YtljcmjcfebpkoaaDoorOk34
import Derived.Test.YtljcmjcfebpkoaaDoorLaid
import Derived.Test.YtljcmjcfebpkoaaDoorTie
import Derived.Test.YtljcmjcfebpkoaaDoorCards
import Derived.Test.YtljcmjcfebpkoaaDoorSxL
namespace Go.Proofs.YtljcmjcfebpkoaaDoor
open Go Go.ChangeShapes Go.WideShapes Go.ChangeAt Go.RowKit SX
set_option linter.unusedVariables false

def cells34 : List Value := [.int .i64 0, .int .i64 1, .int .i64 2, .int .i64 3, .int .i64 4, .int .i64 5, .int .i64 6, .int .i64 7, .int .i64 8, .int .i64 9, .int .i64 10, .int .i64 7, .int .i64 10, .int .i64 8]
def tabs34 : Tabs := [(0, cells34)]
theorem tabs34_nd : (tabs34.map (·.1)).Nodup := by decide
def noKeep : FuncId → Nat → List Nat := fun _ _ => []
set_option maxRecDepth 1000000 in
theorem awake_tree : ((callF Tryd.prog (tabGl tabs34 0) okF (fun _ _ => none) noKeep 80 30 13 [] (tabHp tabs34) []).all isTrue) = true := by kernel_rfl
theorem awake_sx (w : World) (h : TabsIn tabs34 w) : Calls Tryd.prog 13 #[] w fun e w' => e = .returned (.bool true) ∧ Below w.heap.size w w' :=
  pays_tab (ρ := envOf (fun _ _ _ => 0) []) (args := []) tabs34 tabs34_nd h mixed okF_ok (sums_none _ _ _ _) trivial rfl (T.all_holds awake_tree)
def i1 : Sh := .one (.int .i64)
def dsSh : Sh := .agg [.int .i64, .int .i64, .int .i64, .int .i64, .int .i64, .int .u64, .int .i64, .int .u64, .int .i64, .int .u64, .int .i64]
def names34 : Nat → Nat → List Int → Int := fun _ _ _ => 0
def sums34 : Sums := sumsA 13 []
theorem sums34_ok (ρ : Env) (w : World) (ht : TabsIn tabs34 w) : SumsOk Tryd.prog ρ w (fun _ => False) sums34 :=
  sumsA_ok (fun w' hk => awake_sx w' (TabsIn.kept ht hk)) fun s hs => by cases hs

def laidL : List (String × DataW Unit) := [("timesync/dataset.fields", Rows.laid_timesync_dataset_fields)]
theorem own : ownKnob Tryd.prog.godebug = none := by kernel_rfl
theorem laidOut : laidOutB Tryd.prog = true := by kernel_rfl
theorem gTab : Tryd.prog.globalNamed "timesync/dataset.fields" = some 0 := by kernel_rfl
theorem tTab : (Tryd.prog.globals[0]?).map (·.type) = some 62 := by kernel_rfl
theorem okTab : arrOK Tryd.prog 3 62 = true := by kernel_rfl
theorem dTab : flatD (H := Unit) Rows.laid_timesync_dataset_fields = some cells34 := by kernel_rfl
theorem tabs_of_laid {W : World} (h : laidMetH Tryd.prog laidL W) : TabsIn tabs34 W := by
  rw [MakeChecks.laidMetH_plain _ _ _ (by kernel_rfl)] at h
  intro p hp i v hv
  obtain rfl : p = (0, cells34) := by simpa [tabs34, cells34] using hp
  exact laid_cell h (List.mem_cons_self ..) gTab tTab okTab dTab i v hv
/-- The door's own heap meets the condition. -/
theorem door_met (os : Os) (args : Array Value) : laidMetH Tryd.prog laidL ((World.doorLaid Tryd.prog 400 os).forCall (fun _ _ => 0) ⟨#[], args, []⟩).memory :=
  laidMetH_of_parts3 (fuel := 8) (laidMet_of_run' 8 (by kernel_rfl) (by kernel_rfl)) (by kernel_rfl) (by kernel_rfl)
end Go.Proofs.YtljcmjcfebpkoaaDoor
