/- The last runs of the reference's records. -/
import Derived.Test.YtfcpmapfhgibpaaGreatDoorGa1
set_option maxRecDepth 1000000
namespace Go.Proofs.YtfcpmapfhgibpaaGreatDoor
open Go Go.RowKit SX Frm Frn
theorem dropB_ftff : dropOk [false, true, false, false] = true := by kernel_rfl
theorem dropB_ftft : dropOk [false, true, false, true] = true := by kernel_rfl
theorem dropB_fttf : dropOk [false, true, true, false] = true := by kernel_rfl
theorem dropB_fttt : dropOk [false, true, true, true] = true := by kernel_rfl
theorem dropB_tfff : dropOk [true, false, false, false] = true := by kernel_rfl
theorem dropB_tfft : dropOk [true, false, false, true] = true := by kernel_rfl
theorem dropB_tftf : dropOk [true, false, true, false] = true := by kernel_rfl
theorem dropB_tftt : dropOk [true, false, true, true] = true := by kernel_rfl
theorem dropB_ttff : dropOk [true, true, false, false] = true := by kernel_rfl
theorem dropB_ttft : dropOk [true, true, false, true] = true := by kernel_rfl
theorem dropB_tttf : dropOk [true, true, true, false] = true := by kernel_rfl
theorem dropB_tttt : dropOk [true, true, true, true] = true := by kernel_rfl
end Go.Proofs.YtfcpmapfhgibpaaGreatDoor
