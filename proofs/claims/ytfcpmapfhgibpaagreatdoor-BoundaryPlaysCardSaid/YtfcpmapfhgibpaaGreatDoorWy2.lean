/- Both clocks: more of Announce; Sync. -/
import Derived.Test.YtfcpmapfhgibpaaGreatDoorWu
set_option maxRecDepth 1000000
namespace Go.Proofs.YtfcpmapfhgibpaaGreatDoor
theorem hsA8_0 : tS clAnn rcAnn 8 4 0 = true := by kernel_rfl
theorem hsA8_2 : tS clAnn rcAnn 8 4 2 = true := by kernel_rfl
theorem hsA8_4 : tS clAnn rcAnn 8 4 4 = true := by kernel_rfl
theorem hsA8_6 : tS clAnn rcAnn 8 4 6 = true := by kernel_rfl
theorem hsA8_8 : tS clAnn rcAnn 8 4 8 = true := by kernel_rfl
theorem hsA8_10 : tS clAnn rcAnn 8 4 10 = true := by kernel_rfl
theorem hsA8_12 : tS clAnn rcAnn 8 4 12 = true := by kernel_rfl
theorem hsA8_14 : tS clAnn rcAnn 8 4 14 = true := by kernel_rfl
theorem hsA8_1 : tS clAnn rcAnn 8 4 1 = true := by kernel_rfl
theorem hsA8_3 : tS clAnn rcAnn 8 4 3 = true := by kernel_rfl
theorem hsA8_5 : tS clAnn rcAnn 8 4 5 = true := by kernel_rfl
theorem hsA8_7 : tS clAnn rcAnn 8 4 7 = true := by kernel_rfl
theorem hsA8_9 : tS clAnn rcAnn 8 4 9 = true := by kernel_rfl
theorem hsA8_11 : tS clAnn rcAnn 8 4 11 = true := by kernel_rfl
theorem hsA8_13 : tS clAnn rcAnn 8 4 13 = true := by kernel_rfl
theorem hsA8_15 : tS clAnn rcAnn 8 4 15 = true := by kernel_rfl
theorem hgS1 : tG rcSync rulesSync 1 = true := by kernel_rfl
theorem hgS2 : tG rcSync rulesSync 2 = true := by kernel_rfl
theorem hgS3 : tG rcSync rulesSync 3 = true := by kernel_rfl
theorem hgS4 : tG rcSync rulesSync 4 = true := by kernel_rfl
theorem hgS5 : tG rcSync rulesSync 5 = true := by kernel_rfl
theorem hgS6 : tG rcSync rulesSync 6 = true := by kernel_rfl
theorem hgS7 : tG rcSync rulesSync 7 = true := by kernel_rfl
theorem hgS8 : tG rcSync rulesSync 8 = true := by kernel_rfl
end Go.Proofs.YtfcpmapfhgibpaaGreatDoor
