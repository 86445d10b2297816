/- Runs of the reference's records. -/
import Derived.Test.YtfcpmapfhgibpaaGreatDoorGa1
set_option linter.unusedVariables false
set_option linter.unusedSimpArgs false
set_option maxRecDepth 1000000
namespace Go.Proofs.YtfcpmapfhgibpaaGreatDoor
open Go Go.RowKit SX Frm Frn
theorem foundB_1_0 : upTo 7 (fun k => foundBB 1 0 (k + 1)) = true := by kernel_rfl
theorem foundB_2_0 : upTo 7 (fun k => foundBB 2 0 (k + 1)) = true := by kernel_rfl
theorem foundB_2_1 : upTo 7 (fun k => foundBB 2 1 (k + 1)) = true := by kernel_rfl
theorem foundB_3_0 : upTo 7 (fun k => foundBB 3 0 (k + 1)) = true := by kernel_rfl
theorem foundB_3_1 : upTo 7 (fun k => foundBB 3 1 (k + 1)) = true := by kernel_rfl
theorem foundB_3_2 : upTo 7 (fun k => foundBB 3 2 (k + 1)) = true := by kernel_rfl
theorem foundB_4_0_1 : foundBB 4 0 1 = true := by kernel_rfl
theorem foundB_4_0_2 : foundBB 4 0 2 = true := by kernel_rfl
theorem foundB_4_0_3 : foundBB 4 0 3 = true := by kernel_rfl
theorem foundB_4_0_4 : foundBB 4 0 4 = true := by kernel_rfl
theorem foundB_4_0_5 : foundBB 4 0 5 = true := by kernel_rfl
theorem foundB_4_0_6 : foundBB 4 0 6 = true := by kernel_rfl
theorem foundB_4_0_7 : foundBB 4 0 7 = true := by kernel_rfl
theorem foundB_4_0_8 : foundBB 4 0 8 = true := by kernel_rfl
theorem foundB_4_1_1 : foundBB 4 1 1 = true := by kernel_rfl
theorem foundB_4_1_2 : foundBB 4 1 2 = true := by kernel_rfl
theorem foundB_4_1_3 : foundBB 4 1 3 = true := by kernel_rfl
theorem foundB_4_1_4 : foundBB 4 1 4 = true := by kernel_rfl
theorem foundB_4_1_5 : foundBB 4 1 5 = true := by kernel_rfl
theorem foundB_4_1_6 : foundBB 4 1 6 = true := by kernel_rfl
theorem foundB_4_1_7 : foundBB 4 1 7 = true := by kernel_rfl
theorem foundB_4_1_8 : foundBB 4 1 8 = true := by kernel_rfl
theorem foundB_4_2_1 : foundBB 4 2 1 = true := by kernel_rfl
theorem foundB_4_2_2 : foundBB 4 2 2 = true := by kernel_rfl
theorem foundB_4_2_3 : foundBB 4 2 3 = true := by kernel_rfl
theorem foundB_4_2_4 : foundBB 4 2 4 = true := by kernel_rfl
theorem foundB_4_2_5 : foundBB 4 2 5 = true := by kernel_rfl
theorem foundB_4_2_6 : foundBB 4 2 6 = true := by kernel_rfl
theorem foundB_4_2_7 : foundBB 4 2 7 = true := by kernel_rfl
theorem foundB_4_2_8 : foundBB 4 2 8 = true := by kernel_rfl
theorem foundB_4_3_1 : foundBB 4 3 1 = true := by kernel_rfl
theorem foundB_4_3_2 : foundBB 4 3 2 = true := by kernel_rfl
theorem foundB_4_3_3 : foundBB 4 3 3 = true := by kernel_rfl
theorem foundB_4_3_4 : foundBB 4 3 4 = true := by kernel_rfl
theorem foundB_4_3_5 : foundBB 4 3 5 = true := by kernel_rfl
theorem foundB_4_3_6 : foundBB 4 3 6 = true := by kernel_rfl
theorem foundB_4_3_7 : foundBB 4 3 7 = true := by kernel_rfl
theorem foundB_4_3_8 : foundBB 4 3 8 = true := by kernel_rfl
theorem foundB_5_0_1 : foundBB 5 0 1 = true := by kernel_rfl
theorem foundB_5_0_2 : foundBB 5 0 2 = true := by kernel_rfl
theorem foundB_5_0_3 : foundBB 5 0 3 = true := by kernel_rfl
theorem foundB_5_0_4 : foundBB 5 0 4 = true := by kernel_rfl
theorem foundB_5_0_5 : foundBB 5 0 5 = true := by kernel_rfl
theorem foundB_5_0_6 : foundBB 5 0 6 = true := by kernel_rfl
theorem foundB_5_0_7 : foundBB 5 0 7 = true := by kernel_rfl
theorem foundB_5_0_8 : foundBB 5 0 8 = true := by kernel_rfl
theorem foundB_5_1_1 : foundBB 5 1 1 = true := by kernel_rfl
theorem foundB_5_1_2 : foundBB 5 1 2 = true := by kernel_rfl
theorem foundB_5_1_3 : foundBB 5 1 3 = true := by kernel_rfl
theorem foundB_5_1_4 : foundBB 5 1 4 = true := by kernel_rfl
theorem foundB_5_1_5 : foundBB 5 1 5 = true := by kernel_rfl
theorem foundB_5_1_6 : foundBB 5 1 6 = true := by kernel_rfl
theorem foundB_5_1_7 : foundBB 5 1 7 = true := by kernel_rfl
theorem foundB_5_1_8 : foundBB 5 1 8 = true := by kernel_rfl
theorem foundB_5_2_1 : foundBB 5 2 1 = true := by kernel_rfl
theorem foundB_5_2_2 : foundBB 5 2 2 = true := by kernel_rfl
theorem foundB_5_2_3 : foundBB 5 2 3 = true := by kernel_rfl
theorem foundB_5_2_4 : foundBB 5 2 4 = true := by kernel_rfl
theorem foundB_5_2_5 : foundBB 5 2 5 = true := by kernel_rfl
theorem foundB_5_2_6 : foundBB 5 2 6 = true := by kernel_rfl
theorem foundB_5_2_7 : foundBB 5 2 7 = true := by kernel_rfl
theorem foundB_5_2_8 : foundBB 5 2 8 = true := by kernel_rfl
theorem foundB_5_3_1 : foundBB 5 3 1 = true := by kernel_rfl
theorem foundB_5_3_2 : foundBB 5 3 2 = true := by kernel_rfl
theorem foundB_5_3_3 : foundBB 5 3 3 = true := by kernel_rfl
theorem foundB_5_3_4 : foundBB 5 3 4 = true := by kernel_rfl
theorem foundB_5_3_5 : foundBB 5 3 5 = true := by kernel_rfl
theorem foundB_5_3_6 : foundBB 5 3 6 = true := by kernel_rfl
theorem foundB_5_3_7 : foundBB 5 3 7 = true := by kernel_rfl
theorem foundB_5_3_8 : foundBB 5 3 8 = true := by kernel_rfl
end Go.Proofs.YtfcpmapfhgibpaaGreatDoor
