/- Runs of Hear. -/
import Derived.Test.YtfcpmapfhgibpaaGreatDoorWg
set_option linter.unusedVariables false
set_option linter.unusedSimpArgs false
set_option maxRecDepth 1000000
namespace Go.Proofs.YtfcpmapfhgibpaaGreatDoor
open Go Go.RowKit SX Frm Frn
theorem found_1_0 : upTo 7 (fun k => foundB 1 0 (k + 1)) = true := by kernel_rfl
theorem found_2_0 : upTo 7 (fun k => foundB 2 0 (k + 1)) = true := by kernel_rfl
theorem found_2_1 : upTo 7 (fun k => foundB 2 1 (k + 1)) = true := by kernel_rfl
theorem found_3_0 : upTo 7 (fun k => foundB 3 0 (k + 1)) = true := by kernel_rfl
theorem found_3_1 : upTo 7 (fun k => foundB 3 1 (k + 1)) = true := by kernel_rfl
theorem found_3_2 : upTo 7 (fun k => foundB 3 2 (k + 1)) = true := by kernel_rfl
theorem found_4_0 : upTo 7 (fun k => foundB 4 0 (k + 1)) = true := by kernel_rfl
theorem found_4_1 : upTo 7 (fun k => foundB 4 1 (k + 1)) = true := by kernel_rfl
theorem found_4_2 : upTo 7 (fun k => foundB 4 2 (k + 1)) = true := by kernel_rfl
theorem found_4_3 : upTo 7 (fun k => foundB 4 3 (k + 1)) = true := by kernel_rfl
theorem found_5_0 : upTo 7 (fun k => foundB 5 0 (k + 1)) = true := by kernel_rfl
theorem found_5_1 : upTo 7 (fun k => foundB 5 1 (k + 1)) = true := by kernel_rfl
theorem found_5_2 : upTo 7 (fun k => foundB 5 2 (k + 1)) = true := by kernel_rfl
theorem found_5_3 : upTo 7 (fun k => foundB 5 3 (k + 1)) = true := by kernel_rfl
theorem found_5_4 : upTo 7 (fun k => foundB 5 4 (k + 1)) = true := by kernel_rfl
theorem fresh_0 : freshB 0 = true := by kernel_rfl
theorem fresh_1 : freshB 1 = true := by kernel_rfl
theorem fresh_2 : freshB 2 = true := by kernel_rfl
theorem fresh_3 : freshB 3 = true := by kernel_rfl
theorem fresh_4 : freshB 4 = true := by kernel_rfl
theorem drop_0 : dropB 0 = true := by kernel_rfl
theorem drop_1 : dropB 1 = true := by kernel_rfl
theorem drop_2 : dropB 2 = true := by kernel_rfl
theorem drop_3 : dropB 3 = true := by kernel_rfl
theorem drop_4 : dropB 4 = true := by kernel_rfl
theorem err_0 (lv : Value) : errB 0 3 lv = true := by kernel_rfl
theorem err_1 (lv : Value) : errB 1 3 lv = true := by kernel_rfl
theorem err_2 (lv : Value) : errB 2 12 lv = true := by kernel_rfl
theorem err_3 (lv : Value) : errB 3 18 lv = true := by kernel_rfl
theorem err_4 (lv : Value) : errB 4 3 lv = true := by kernel_rfl
end Go.Proofs.YtfcpmapfhgibpaaGreatDoor
