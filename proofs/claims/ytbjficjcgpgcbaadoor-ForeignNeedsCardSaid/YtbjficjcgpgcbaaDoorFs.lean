/- What the laws of layer 35 share: the table of package dataset, the examples, the methods as names. -/
import Derived.Test.YtbjficjcgpgcbaaDoorFr
import Derived.Test.YtbjficjcgpgcbaaDoorMo
import Derived.Test.YtbjficjcgpgcbaaDoorTie
import Derived.Test.YtbjficjcgpgcbaaDoorCards
namespace Go.Proofs.YtbjficjcgpgcbaaDoor
open Go Go.ChangeShapes Go.WideShapes Go.ChangeAt Go.RowKit SX Frm Frn
set_option linter.unusedVariables false

def cells35 : List Value := [.int .i64 0, .int .i64 1, .int .i64 2, .int .i64 3, .int .i64 4, .int .i64 5, .int .i64 6, .int .i64 7, .int .i64 8, .int .i64 9, .int .i64 10, .int .i64 7, .int .i64 10, .int .i64 8]
def tabs35 : Tabs := [(0, cells35)]
theorem tabs35_nd : (tabs35.map (·.1)).Nodup := by decide
set_option maxRecDepth 1000000 in
theorem awake_tree : ((callF Tryd.prog (tabGl tabs35 0) okF (fun _ _ => none) noKeep 80 30 12 [] (tabHp tabs35) []).all isTrue) = true := by kernel_rfl
theorem awake_sx (w : World) (h : TabsIn tabs35 w) : Calls Tryd.prog 12 #[] w fun e w' => e = .returned (.bool true) ∧ Below w.heap.size w w' :=
  pays_tab (ρ := envOf (fun _ _ _ => 0) []) (args := []) tabs35 tabs35_nd h mixed okF_ok (sums_none _ _ _ _) trivial rfl (T.all_holds awake_tree)
def i1 : Sh := .one (.int .i64)
def dsSh : Sh := .agg [.int .i64, .int .i64, .int .i64, .int .i64, .int .i64, .int .u64, .int .i64, .int .u64, .int .i64, .int .u64, .int .i64]
def names35 : Nat → Nat → List Int → Int := fun _ _ _ => 0
def sums35 : Sums := sumsA 12 []
theorem sums35_ok (ρ : Env) {w : World} (ht : TabsIn tabs35 w) : SumsOk Tryd.prog ρ w (fun _ => False) sums35 :=
  sumsA_ok (fun w' hk => awake_sx w' (TabsIn.kept ht hk)) fun s hs => by cases hs

def laidL : List (String × DataW Unit) := [("timesync/dataset.fields", Rows.laid_timesync_dataset_fields)]
theorem own : ownKnob Tryd.prog.godebug = none := by kernel_rfl
theorem laidOut : laidOutB Tryd.prog = true := by kernel_rfl
theorem gTab : Tryd.prog.globalNamed "timesync/dataset.fields" = some 0 := by kernel_rfl
theorem tTab : (Tryd.prog.globals[0]?).map (·.type) = some 78 := by kernel_rfl
theorem okTab : arrOK Tryd.prog 3 78 = true := by kernel_rfl
theorem dTab : flatD (H := Unit) Rows.laid_timesync_dataset_fields = some cells35 := by kernel_rfl
theorem tabs_of_laid {W : World} (h : laidMetH Tryd.prog laidL W) : TabsIn tabs35 W := by
  rw [MakeChecks.laidMetH_plain _ _ _ (by kernel_rfl)] at h
  intro p hp i v hv
  obtain rfl : p = (0, cells35) := by simpa [tabs35, cells35] using hp
  exact laid_cell h (List.mem_cons_self ..) gTab tTab okTab dTab i v hv
/-- The door's own heap meets the condition. -/
theorem door_met (os : Os) (args : Array Value) : laidMetH Tryd.prog laidL ((World.doorLaid Tryd.prog 400 os).forCall (fun _ _ => 0) ⟨#[], args, []⟩).memory :=
  laidMetH_of_parts3 (fuel := 8) (laidMet_of_run' 8 (by kernel_rfl) (by kernel_rfl)) (by kernel_rfl) (by kernel_rfl)
def dsLk : List Lk := [.int .i64, .int .i64, .int .i64, .int .i64, .int .i64, .int .u64, .int .i64, .int .u64, .int .i64, .int .u64, .int .i64]
def opLk : List Lk := [.int .i64, .int .i64] ++ dsLk
def spL : SpcT := orT spF (ofSpc (sumSpec sums35))
noncomputable def callL : Caller := callH Tryd.prog (tabGl tabs35 0) okF spL noKeep 80 30
theorem spL_ok {ρ : Env} {w0 : World} {gl : Gl} (hf : ρ.fn = FN) (ht : TabsIn tabs35 w0) : SpecOkT Tryd.prog ρ w0 (fun _ => False) gl spL := orT_ok (spF_ok hf) (ofSpc_ok (sumSpec_ok (sums35_ok ρ ht)))
theorem callL_ok {ρ : Env} {w0 : World} (hf : ρ.fn = FN) (ht : TabsIn tabs35 w0) : CallOk Tryd.prog ρ w0 (fun _ => False) (tabGl tabs35 0) callL := callH_run mixed okF_ok (spL_ok hf ht) 30
end Go.Proofs.YtbjficjcgpgcbaaDoor
