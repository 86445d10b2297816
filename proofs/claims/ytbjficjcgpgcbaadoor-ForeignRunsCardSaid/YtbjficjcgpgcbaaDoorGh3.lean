/- Records of the reference of package foreign: a record hears a message. -/
import Derived.Test.YtbjficjcgpgcbaaDoorGb
namespace Go.Proofs.YtbjficjcgpgcbaaDoor
open Go Go.RowKit SX Frm Frn
set_option linter.unusedVariables false
set_option maxRecDepth 1000000 in
theorem foundB_5_3_1 : foundBB 5 3 1 = true := by kernel_rfl
set_option maxRecDepth 1000000 in
theorem foundB_5_3_2 : foundBB 5 3 2 = true := by kernel_rfl
set_option maxRecDepth 1000000 in
theorem foundB_5_3_3 : foundBB 5 3 3 = true := by kernel_rfl
set_option maxRecDepth 1000000 in
theorem foundB_5_3_4 : foundBB 5 3 4 = true := by kernel_rfl
set_option maxRecDepth 1000000 in
theorem foundB_5_3_5 : foundBB 5 3 5 = true := by kernel_rfl
set_option maxRecDepth 1000000 in
theorem foundB_5_3_6 : foundBB 5 3 6 = true := by kernel_rfl
set_option maxRecDepth 1000000 in
theorem foundB_5_3_7 : foundBB 5 3 7 = true := by kernel_rfl
set_option maxRecDepth 1000000 in
theorem foundB_5_3_8 : foundBB 5 3 8 = true := by kernel_rfl
end Go.Proofs.YtbjficjcgpgcbaaDoor
