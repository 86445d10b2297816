/- Records of the reference of package foreign: a record hears a message. -/
import Derived.Test.YtbjficjcgpgcbaaDoorGb
namespace Go.Proofs.YtbjficjcgpgcbaaDoor
open Go Go.RowKit SX Frm Frn
set_option linter.unusedVariables false
set_option maxRecDepth 1000000 in
theorem foundB_4_0_1 : foundBB 4 0 1 = true := by kernel_rfl
set_option maxRecDepth 1000000 in
theorem foundB_4_0_2 : foundBB 4 0 2 = true := by kernel_rfl
set_option maxRecDepth 1000000 in
theorem foundB_4_0_3 : foundBB 4 0 3 = true := by kernel_rfl
set_option maxRecDepth 1000000 in
theorem foundB_4_0_4 : foundBB 4 0 4 = true := by kernel_rfl
set_option maxRecDepth 1000000 in
theorem foundB_4_0_5 : foundBB 4 0 5 = true := by kernel_rfl
set_option maxRecDepth 1000000 in
theorem foundB_4_0_6 : foundBB 4 0 6 = true := by kernel_rfl
set_option maxRecDepth 1000000 in
theorem foundB_4_0_7 : foundBB 4 0 7 = true := by kernel_rfl
set_option maxRecDepth 1000000 in
theorem foundB_4_0_8 : foundBB 4 0 8 = true := by kernel_rfl
set_option maxRecDepth 1000000 in
theorem foundB_4_1_1 : foundBB 4 1 1 = true := by kernel_rfl
set_option maxRecDepth 1000000 in
theorem foundB_4_1_2 : foundBB 4 1 2 = true := by kernel_rfl
set_option maxRecDepth 1000000 in
theorem foundB_4_1_3 : foundBB 4 1 3 = true := by kernel_rfl
set_option maxRecDepth 1000000 in
theorem foundB_4_1_4 : foundBB 4 1 4 = true := by kernel_rfl
set_option maxRecDepth 1000000 in
theorem foundB_4_1_5 : foundBB 4 1 5 = true := by kernel_rfl
set_option maxRecDepth 1000000 in
theorem foundB_4_1_6 : foundBB 4 1 6 = true := by kernel_rfl
set_option maxRecDepth 1000000 in
theorem foundB_4_1_7 : foundBB 4 1 7 = true := by kernel_rfl
set_option maxRecDepth 1000000 in
theorem foundB_4_1_8 : foundBB 4 1 8 = true := by kernel_rfl
set_option maxRecDepth 1000000 in
theorem foundB_4_2_1 : foundBB 4 2 1 = true := by kernel_rfl
set_option maxRecDepth 1000000 in
theorem foundB_4_2_2 : foundBB 4 2 2 = true := by kernel_rfl
set_option maxRecDepth 1000000 in
theorem foundB_4_2_3 : foundBB 4 2 3 = true := by kernel_rfl
set_option maxRecDepth 1000000 in
theorem foundB_4_2_4 : foundBB 4 2 4 = true := by kernel_rfl
set_option maxRecDepth 1000000 in
theorem foundB_4_2_5 : foundBB 4 2 5 = true := by kernel_rfl
set_option maxRecDepth 1000000 in
theorem foundB_4_2_6 : foundBB 4 2 6 = true := by kernel_rfl
set_option maxRecDepth 1000000 in
theorem foundB_4_2_7 : foundBB 4 2 7 = true := by kernel_rfl
set_option maxRecDepth 1000000 in
theorem foundB_4_2_8 : foundBB 4 2 8 = true := by kernel_rfl
set_option maxRecDepth 1000000 in
theorem foundB_4_3_1 : foundBB 4 3 1 = true := by kernel_rfl
set_option maxRecDepth 1000000 in
theorem foundB_4_3_2 : foundBB 4 3 2 = true := by kernel_rfl
set_option maxRecDepth 1000000 in
theorem foundB_4_3_3 : foundBB 4 3 3 = true := by kernel_rfl
set_option maxRecDepth 1000000 in
theorem foundB_4_3_4 : foundBB 4 3 4 = true := by kernel_rfl
set_option maxRecDepth 1000000 in
theorem foundB_4_3_5 : foundBB 4 3 5 = true := by kernel_rfl
set_option maxRecDepth 1000000 in
theorem foundB_4_3_6 : foundBB 4 3 6 = true := by kernel_rfl
set_option maxRecDepth 1000000 in
theorem foundB_4_3_7 : foundBB 4 3 7 = true := by kernel_rfl
set_option maxRecDepth 1000000 in
theorem foundB_4_3_8 : foundBB 4 3 8 = true := by kernel_rfl
end Go.Proofs.YtbjficjcgpgcbaaDoor
