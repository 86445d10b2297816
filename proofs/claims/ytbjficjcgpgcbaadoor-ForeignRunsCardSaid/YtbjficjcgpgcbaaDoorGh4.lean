/- Records of the reference of package foreign: a record hears a message. -/
import Derived.Test.YtbjficjcgpgcbaaDoorGb
namespace Go.Proofs.YtbjficjcgpgcbaaDoor
open Go Go.RowKit SX Frm Frn
set_option linter.unusedVariables false
set_option maxRecDepth 1000000 in
theorem foundB_5_4_1 : foundBB 5 4 1 = true := by kernel_rfl
set_option maxRecDepth 1000000 in
theorem foundB_5_4_2 : foundBB 5 4 2 = true := by kernel_rfl
set_option maxRecDepth 1000000 in
theorem foundB_5_4_3 : foundBB 5 4 3 = true := by kernel_rfl
set_option maxRecDepth 1000000 in
theorem foundB_5_4_4 : foundBB 5 4 4 = true := by kernel_rfl
set_option maxRecDepth 1000000 in
theorem foundB_5_4_5 : foundBB 5 4 5 = true := by kernel_rfl
set_option maxRecDepth 1000000 in
theorem foundB_5_4_6 : foundBB 5 4 6 = true := by kernel_rfl
set_option maxRecDepth 1000000 in
theorem foundB_5_4_7 : foundBB 5 4 7 = true := by kernel_rfl
set_option maxRecDepth 1000000 in
theorem foundB_5_4_8 : foundBB 5 4 8 = true := by kernel_rfl
end Go.Proofs.YtbjficjcgpgcbaaDoor
