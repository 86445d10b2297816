/- Both clocks: more of Sync. -/
import Derived.Test.YtfcpmapfhgibpaaGreatDoorWu
set_option maxRecDepth 1000000
namespace Go.Proofs.YtfcpmapfhgibpaaGreatDoor
theorem hsS7_0 : tS clSync rcSync 7 4 0 = true := by kernel_rfl
theorem hsS7_3 : tS clSync rcSync 7 4 3 = true := by kernel_rfl
theorem hsS7_6 : tS clSync rcSync 7 4 6 = true := by kernel_rfl
theorem hsS7_9 : tS clSync rcSync 7 4 9 = true := by kernel_rfl
theorem hsS7_12 : tS clSync rcSync 7 4 12 = true := by kernel_rfl
theorem hsS7_15 : tS clSync rcSync 7 4 15 = true := by kernel_rfl
theorem hsS7_1 : tS clSync rcSync 7 4 1 = true := by kernel_rfl
theorem hsS7_4 : tS clSync rcSync 7 4 4 = true := by kernel_rfl
theorem hsS7_7 : tS clSync rcSync 7 4 7 = true := by kernel_rfl
theorem hsS7_10 : tS clSync rcSync 7 4 10 = true := by kernel_rfl
theorem hsS7_13 : tS clSync rcSync 7 4 13 = true := by kernel_rfl
theorem hsS7_2 : tS clSync rcSync 7 4 2 = true := by kernel_rfl
theorem hsS7_5 : tS clSync rcSync 7 4 5 = true := by kernel_rfl
theorem hsS7_8 : tS clSync rcSync 7 4 8 = true := by kernel_rfl
theorem hsS7_11 : tS clSync rcSync 7 4 11 = true := by kernel_rfl
theorem hsS7_14 : tS clSync rcSync 7 4 14 = true := by kernel_rfl
theorem hsS8_0 : tS clSync rcSync 8 5 0 = true := by kernel_rfl
theorem hsS8_4 : tS clSync rcSync 8 5 4 = true := by kernel_rfl
theorem hsS8_8 : tS clSync rcSync 8 5 8 = true := by kernel_rfl
theorem hsS8_12 : tS clSync rcSync 8 5 12 = true := by kernel_rfl
theorem hsS8_16 : tS clSync rcSync 8 5 16 = true := by kernel_rfl
theorem hsS8_20 : tS clSync rcSync 8 5 20 = true := by kernel_rfl
theorem hsS8_24 : tS clSync rcSync 8 5 24 = true := by kernel_rfl
theorem hsS8_28 : tS clSync rcSync 8 5 28 = true := by kernel_rfl
theorem hsS8_1 : tS clSync rcSync 8 5 1 = true := by kernel_rfl
theorem hsS8_5 : tS clSync rcSync 8 5 5 = true := by kernel_rfl
theorem hsS8_9 : tS clSync rcSync 8 5 9 = true := by kernel_rfl
theorem hsS8_13 : tS clSync rcSync 8 5 13 = true := by kernel_rfl
theorem hsS8_17 : tS clSync rcSync 8 5 17 = true := by kernel_rfl
theorem hsS8_21 : tS clSync rcSync 8 5 21 = true := by kernel_rfl
theorem hsS8_25 : tS clSync rcSync 8 5 25 = true := by kernel_rfl
theorem hsS8_29 : tS clSync rcSync 8 5 29 = true := by kernel_rfl
theorem hsS8_2 : tS clSync rcSync 8 5 2 = true := by kernel_rfl
theorem hsS8_6 : tS clSync rcSync 8 5 6 = true := by kernel_rfl
theorem hsS8_10 : tS clSync rcSync 8 5 10 = true := by kernel_rfl
theorem hsS8_14 : tS clSync rcSync 8 5 14 = true := by kernel_rfl
theorem hsS8_18 : tS clSync rcSync 8 5 18 = true := by kernel_rfl
theorem hsS8_22 : tS clSync rcSync 8 5 22 = true := by kernel_rfl
theorem hsS8_26 : tS clSync rcSync 8 5 26 = true := by kernel_rfl
theorem hsS8_30 : tS clSync rcSync 8 5 30 = true := by kernel_rfl
theorem hsS8_3 : tS clSync rcSync 8 5 3 = true := by kernel_rfl
theorem hsS8_7 : tS clSync rcSync 8 5 7 = true := by kernel_rfl
theorem hsS8_11 : tS clSync rcSync 8 5 11 = true := by kernel_rfl
theorem hsS8_15 : tS clSync rcSync 8 5 15 = true := by kernel_rfl
theorem hsS8_19 : tS clSync rcSync 8 5 19 = true := by kernel_rfl
theorem hsS8_23 : tS clSync rcSync 8 5 23 = true := by kernel_rfl
theorem hsS8_27 : tS clSync rcSync 8 5 27 = true := by kernel_rfl
theorem hsS8_31 : tS clSync rcSync 8 5 31 = true := by kernel_rfl
end Go.Proofs.YtfcpmapfhgibpaaGreatDoor
