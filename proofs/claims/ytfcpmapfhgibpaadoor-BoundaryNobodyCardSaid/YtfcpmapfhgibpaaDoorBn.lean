/- What the laws of layer 41 share: the tables of packages dataset and port, the examples; BoundaryNobody. -/
import Derived.Test.YtfcpmapfhgibpaaDoorOk41
import Derived.Test.YtfcpmapfhgibpaaDoorMo
import Derived.Test.YtfcpmapfhgibpaaDoorTie
import Derived.Test.YtfcpmapfhgibpaaDoorCards
namespace Go.Proofs.YtfcpmapfhgibpaaDoor
open Go Go.ChangeShapes Go.WideShapes Go.ChangeAt Go.RowKit SX
set_option linter.unusedVariables false

def cellsF : List Value := [.int .i64 0, .int .i64 1, .int .i64 2, .int .i64 3, .int .i64 4, .int .i64 5, .int .i64 6, .int .i64 7, .int .i64 8, .int .i64 9, .int .i64 10, .int .i64 7, .int .i64 10, .int .i64 8]
def tabsT : Tabs := [(0, cellsF)]
theorem tabsT_nd : (tabsT.map (·.1)).Nodup := by decide
def noKeep : FuncId → Nat → List Nat := fun _ _ => []
def laidL : List (String × DataW Unit) := [("timesync/port.table", Rows.laid_timesync_port_table), ("timesync/dataset.fields", Rows.laid_timesync_dataset_fields)]
theorem own : ownKnob Tryd.prog.godebug = none := by kernel_rfl
theorem laidOut : laidOutB Tryd.prog = true := by kernel_rfl
theorem gTab : Tryd.prog.globalNamed "timesync/dataset.fields" = some 0 := by kernel_rfl
theorem tTab : (Tryd.prog.globals[0]?).map (·.type) = some 114 := by kernel_rfl
theorem okTab : arrOK Tryd.prog 3 114 = true := by kernel_rfl
theorem gTabP : Tryd.prog.globalNamed "timesync/port.table" = some 1 := by kernel_rfl
theorem tTabP : (Tryd.prog.globals[1]?).map (·.type) = some 140 := by kernel_rfl
theorem okTabP : arrOK Tryd.prog 3 140 = true := by kernel_rfl
def cellsP : List Value := (flatD (H := Unit) Rows.laid_timesync_port_table).getD []
theorem dTabP : flatD (H := Unit) Rows.laid_timesync_port_table = some cellsP := by kernel_rfl
def tabs2 : Tabs := [(0, cellsF), (1, cellsP)]
theorem tabs2_nd : (tabs2.map (·.1)).Nodup := by decide
theorem tabs_one {w : World} (h : TabsIn tabs2 w) : TabsIn tabsT w := fun p hp => h p (by
  obtain rfl : p = (0, cellsF) := by simpa [tabsT] using hp
  exact List.mem_cons_self ..)
theorem dTab : flatD (H := Unit) Rows.laid_timesync_dataset_fields = some cellsF := by kernel_rfl
theorem tabs_of_laid {W : World} (h : laidMetH Tryd.prog laidL W) : TabsIn tabs2 W := by
  rw [MakeChecks.laidMetH_plain _ _ _ (by kernel_rfl)] at h
  intro p hp i v hv
  simp only [tabs2, List.mem_cons, List.not_mem_nil, or_false] at hp
  rcases hp with rfl | rfl
  · exact laid_cell h (List.mem_cons_of_mem _ (List.mem_cons_self ..)) gTab tTab okTab dTab i v hv
  · exact laid_cell h (List.mem_cons_self ..) gTabP tTabP okTabP dTabP i v hv
/-- The door's own heap meets the condition. -/
theorem door_met (os : Os) (args : Array Value) : laidMetH Tryd.prog laidL ((World.doorLaid Tryd.prog 400 os).forCall (fun _ _ => 0) ⟨#[], args, []⟩).memory :=
  laidMetH_of_parts3 (fuel := 8) (laidMet_of_run' 8 (by kernel_rfl) (by kernel_rfl)) (by kernel_rfl) (by kernel_rfl)

set_option maxRecDepth 1000000 in
theorem awake_tree : ((callF Tryd.prog (tabGl tabs2 0) okF (fun _ _ => none) noKeep 200 60 7 [] (tabHp tabs2) []).all isTrue) = true := by kernel_rfl
set_option maxRecDepth 1000000 in
theorem awake_sx (w : World) (h : TabsIn tabs2 w) : Calls Tryd.prog 7 #[] w fun e w' => e = .returned (.bool true) ∧ Below w.heap.size w w' :=
  pays_tab (ρ := envOf (fun _ _ _ => 0) []) (args := []) tabs2 tabs2_nd h mixed okF_ok (sums_none _ _ _ _) trivial rfl (T.all_holds awake_tree)
def i1 : Sh := .one (.int .i64)
def ptSh : Sh := .agg [.int .i64, .int .i64, .int .i64, .int .i64, .int .u64, .int .i64, .int .i64, .int .i64, .int .i64, .int .i64, .int .u64, .int .i64, .int .i64, .int .i64, .int .i64, .int .i64, .int .i64, .int .i64, .int .u64, .int .i64, .int .i64]
def names41 : Nat → Nat → List Int → Int := fun _ _ _ => 0
def sums41 : Sums := sumsA 7 []
set_option maxRecDepth 1000000 in
theorem sums41_ok (ρ : Env) {w : World} (ht : TabsIn tabs2 w) : SumsOk Tryd.prog ρ w (fun _ => False) sums41 :=
  sumsA_ok (fun w' hk => awake_sx w' (TabsIn.kept ht hk)) fun s hs => by cases hs
def nobSh : List Sh := [i1, i1, ptSh]
set_option maxRecDepth 1000000 in
theorem nob_tree : ((callF Tryd.prog (tabGl tabs2 0) okF sums41 noKeep 80 30 5 (varShs nobSh 0) (tabHp tabs2) (([] : Fs) ++ varFacts nobSh 0)).all isTrueF) = true := by kernel_rfl
set_option maxRecDepth 1000000 in
theorem nob_pays (ns : List Int) (hf : shFits nobSh ns) (w : World) (ht : TabsIn tabs2 w) : Calls Tryd.prog 5 (shVals nobSh ns).toArray w fun e w' => e = .returned (.bool true) ∧ Below w.heap.size w w' :=
  pays_cases (F := names41) tabs2 tabs2_nd mixed okF_ok ht (fun ns => sums41_ok _ ht) .leaf (CT.mk0 nob_tree) ns hf
end Go.Proofs.YtfcpmapfhgibpaaDoor
