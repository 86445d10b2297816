/- More runs of the reference's records. -/
import Derived.Test.YtfcpmapfhgibpaaGreatDoorGa1
set_option maxRecDepth 1000000
namespace Go.Proofs.YtfcpmapfhgibpaaGreatDoor
open Go Go.RowKit SX Frm Frn
theorem foundB_5_4_1 : foundBB 5 4 1 = true := by kernel_rfl
theorem foundB_5_4_2 : foundBB 5 4 2 = true := by kernel_rfl
theorem foundB_5_4_3 : foundBB 5 4 3 = true := by kernel_rfl
theorem foundB_5_4_4 : foundBB 5 4 4 = true := by kernel_rfl
theorem foundB_5_4_5 : foundBB 5 4 5 = true := by kernel_rfl
theorem foundB_5_4_6 : foundBB 5 4 6 = true := by kernel_rfl
theorem foundB_5_4_7 : foundBB 5 4 7 = true := by kernel_rfl
theorem foundB_5_4_8 : foundBB 5 4 8 = true := by kernel_rfl
theorem freshB_0 : freshBB 0 = true := by kernel_rfl
theorem freshB_1 : freshBB 1 = true := by kernel_rfl
theorem freshB_2 : freshBB 2 = true := by kernel_rfl
theorem freshB_3 : freshBB 3 = true := by kernel_rfl
theorem freshB_4 : freshBB 4 = true := by kernel_rfl
theorem errB_0 (lv : Value) : errBB 0 3 lv = true := by kernel_rfl
theorem errB_1 (lv : Value) : errBB 1 3 lv = true := by kernel_rfl
theorem errB_2 (lv : Value) : errBB 2 12 lv = true := by kernel_rfl
theorem errB_3 (lv : Value) : errBB 3 18 lv = true := by kernel_rfl
theorem errB_4 (lv : Value) : errBB 4 3 lv = true := by kernel_rfl
theorem dropB_ffff : dropOk [false, false, false, false] = true := by kernel_rfl
theorem dropB_ffft : dropOk [false, false, false, true] = true := by kernel_rfl
theorem dropB_fftf : dropOk [false, false, true, false] = true := by kernel_rfl
theorem dropB_fftt : dropOk [false, false, true, true] = true := by kernel_rfl
end Go.Proofs.YtfcpmapfhgibpaaGreatDoor
