/- Records of the reference of package foreign: a message of a new origin; messages that are refused. -/
import Derived.Test.YtbjficjcgpgcbaaDoorGb
namespace Go.Proofs.YtbjficjcgpgcbaaDoor
open Go Go.RowKit SX Frm Frn
set_option linter.unusedVariables false
set_option maxRecDepth 1000000 in
theorem freshB_0 : freshBB 0 = true := by kernel_rfl
set_option maxRecDepth 1000000 in
theorem freshB_1 : freshBB 1 = true := by kernel_rfl
set_option maxRecDepth 1000000 in
theorem freshB_2 : freshBB 2 = true := by kernel_rfl
set_option maxRecDepth 1000000 in
theorem freshB_3 : freshBB 3 = true := by kernel_rfl
set_option maxRecDepth 1000000 in
theorem freshB_4 : freshBB 4 = true := by kernel_rfl
set_option maxRecDepth 1000000 in
theorem errB_0 (lv : Value) : errBB 0 3 lv = true := by kernel_rfl
set_option maxRecDepth 1000000 in
theorem errB_1 (lv : Value) : errBB 1 3 lv = true := by kernel_rfl
set_option maxRecDepth 1000000 in
theorem errB_2 (lv : Value) : errBB 2 12 lv = true := by kernel_rfl
set_option maxRecDepth 1000000 in
theorem errB_3 (lv : Value) : errBB 3 18 lv = true := by kernel_rfl
set_option maxRecDepth 1000000 in
theorem errB_4 (lv : Value) : errBB 4 3 lv = true := by kernel_rfl
end Go.Proofs.YtbjficjcgpgcbaaDoor
