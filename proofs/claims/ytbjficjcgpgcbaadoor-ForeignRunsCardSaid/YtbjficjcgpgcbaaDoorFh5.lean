/- Records of package foreign: a message of a new origin; messages that are refused. -/
import Derived.Test.YtbjficjcgpgcbaaDoorFd
namespace Go.Proofs.YtbjficjcgpgcbaaDoor
open Go Go.RowKit SX Frm Frn
set_option linter.unusedVariables false
set_option maxRecDepth 1000000 in
theorem fresh_0 : freshB 0 = true := by kernel_rfl
set_option maxRecDepth 1000000 in
theorem fresh_1 : freshB 1 = true := by kernel_rfl
set_option maxRecDepth 1000000 in
theorem fresh_2 : freshB 2 = true := by kernel_rfl
set_option maxRecDepth 1000000 in
theorem fresh_3 : freshB 3 = true := by kernel_rfl
set_option maxRecDepth 1000000 in
theorem fresh_4 : freshB 4 = true := by kernel_rfl
set_option maxRecDepth 1000000 in
theorem drop_0 : dropB 0 = true := by kernel_rfl
set_option maxRecDepth 1000000 in
theorem drop_1 : dropB 1 = true := by kernel_rfl
set_option maxRecDepth 1000000 in
theorem drop_2 : dropB 2 = true := by kernel_rfl
set_option maxRecDepth 1000000 in
theorem drop_3 : dropB 3 = true := by kernel_rfl
set_option maxRecDepth 1000000 in
theorem drop_4 : dropB 4 = true := by kernel_rfl
set_option maxRecDepth 1000000 in
theorem err_0 (lv : Value) : errB 0 3 lv = true := by kernel_rfl
set_option maxRecDepth 1000000 in
theorem err_1 (lv : Value) : errB 1 3 lv = true := by kernel_rfl
set_option maxRecDepth 1000000 in
theorem err_2 (lv : Value) : errB 2 12 lv = true := by kernel_rfl
set_option maxRecDepth 1000000 in
theorem err_3 (lv : Value) : errB 3 18 lv = true := by kernel_rfl
set_option maxRecDepth 1000000 in
theorem err_4 (lv : Value) : errB 4 3 lv = true := by kernel_rfl
end Go.Proofs.YtbjficjcgpgcbaaDoor
