/- Records of the reference of package foreign: a record hears a message. -/
import Derived.Test.YtbjficjcgpgcbaaDoorGb
namespace Go.Proofs.YtbjficjcgpgcbaaDoor
open Go Go.RowKit SX Frm Frn
set_option linter.unusedVariables false
set_option maxRecDepth 1000000 in
theorem foundB_5_0_1 : foundBB 5 0 1 = true := by kernel_rfl
set_option maxRecDepth 1000000 in
theorem foundB_5_0_2 : foundBB 5 0 2 = true := by kernel_rfl
set_option maxRecDepth 1000000 in
theorem foundB_5_0_3 : foundBB 5 0 3 = true := by kernel_rfl
set_option maxRecDepth 1000000 in
theorem foundB_5_0_4 : foundBB 5 0 4 = true := by kernel_rfl
set_option maxRecDepth 1000000 in
theorem foundB_5_0_5 : foundBB 5 0 5 = true := by kernel_rfl
set_option maxRecDepth 1000000 in
theorem foundB_5_0_6 : foundBB 5 0 6 = true := by kernel_rfl
set_option maxRecDepth 1000000 in
theorem foundB_5_0_7 : foundBB 5 0 7 = true := by kernel_rfl
set_option maxRecDepth 1000000 in
theorem foundB_5_0_8 : foundBB 5 0 8 = true := by kernel_rfl
set_option maxRecDepth 1000000 in
theorem foundB_5_1_1 : foundBB 5 1 1 = true := by kernel_rfl
set_option maxRecDepth 1000000 in
theorem foundB_5_1_2 : foundBB 5 1 2 = true := by kernel_rfl
set_option maxRecDepth 1000000 in
theorem foundB_5_1_3 : foundBB 5 1 3 = true := by kernel_rfl
set_option maxRecDepth 1000000 in
theorem foundB_5_1_4 : foundBB 5 1 4 = true := by kernel_rfl
set_option maxRecDepth 1000000 in
theorem foundB_5_1_5 : foundBB 5 1 5 = true := by kernel_rfl
set_option maxRecDepth 1000000 in
theorem foundB_5_1_6 : foundBB 5 1 6 = true := by kernel_rfl
set_option maxRecDepth 1000000 in
theorem foundB_5_1_7 : foundBB 5 1 7 = true := by kernel_rfl
set_option maxRecDepth 1000000 in
theorem foundB_5_1_8 : foundBB 5 1 8 = true := by kernel_rfl
set_option maxRecDepth 1000000 in
theorem foundB_5_2_1 : foundBB 5 2 1 = true := by kernel_rfl
set_option maxRecDepth 1000000 in
theorem foundB_5_2_2 : foundBB 5 2 2 = true := by kernel_rfl
set_option maxRecDepth 1000000 in
theorem foundB_5_2_3 : foundBB 5 2 3 = true := by kernel_rfl
set_option maxRecDepth 1000000 in
theorem foundB_5_2_4 : foundBB 5 2 4 = true := by kernel_rfl
set_option maxRecDepth 1000000 in
theorem foundB_5_2_5 : foundBB 5 2 5 = true := by kernel_rfl
set_option maxRecDepth 1000000 in
theorem foundB_5_2_6 : foundBB 5 2 6 = true := by kernel_rfl
set_option maxRecDepth 1000000 in
theorem foundB_5_2_7 : foundBB 5 2 7 = true := by kernel_rfl
set_option maxRecDepth 1000000 in
theorem foundB_5_2_8 : foundBB 5 2 8 = true := by kernel_rfl
end Go.Proofs.YtbjficjcgpgcbaaDoor
