/- Both clocks: kernel checks of Sync. -/
import Derived.Test.YtfcpmapfhgibpaaGreatDoorWu
set_option maxRecDepth 1000000
namespace Go.Proofs.YtfcpmapfhgibpaaGreatDoor
theorem hsS1_0 : tS clSync rcSync 1 0 0 = true := by kernel_rfl
theorem hsS2_0 : tS clSync rcSync 2 0 0 = true := by kernel_rfl
theorem hsS3_0 : tS clSync rcSync 3 0 0 = true := by kernel_rfl
theorem hsS4_0 : tS clSync rcSync 4 0 0 = true := by kernel_rfl
theorem hsS5_0 : tS clSync rcSync 5 0 0 = true := by kernel_rfl
theorem hsS6_0 : tS clSync rcSync 6 3 0 = true := by kernel_rfl
theorem hsS6_2 : tS clSync rcSync 6 3 2 = true := by kernel_rfl
theorem hsS6_4 : tS clSync rcSync 6 3 4 = true := by kernel_rfl
theorem hsS6_6 : tS clSync rcSync 6 3 6 = true := by kernel_rfl
theorem hsS6_1 : tS clSync rcSync 6 3 1 = true := by kernel_rfl
theorem hsS6_3 : tS clSync rcSync 6 3 3 = true := by kernel_rfl
theorem hsS6_5 : tS clSync rcSync 6 3 5 = true := by kernel_rfl
theorem hsS6_7 : tS clSync rcSync 6 3 7 = true := by kernel_rfl
end Go.Proofs.YtfcpmapfhgibpaaGreatDoor
