/- Both clocks: kernel checks of Announce. -/
import Derived.Test.YtfcpmapfhgibpaaGreatDoorWu
set_option maxRecDepth 1000000
namespace Go.Proofs.YtfcpmapfhgibpaaGreatDoor
theorem hgA1 : tG rcAnn rulesAnnR 1 = true := by kernel_rfl
theorem hgA2 : tG rcAnn rulesAnnR 2 = true := by kernel_rfl
theorem hgA3 : tG rcAnn rulesAnnR 3 = true := by kernel_rfl
theorem hgA4 : tG rcAnn rulesAnnR 4 = true := by kernel_rfl
theorem hgA5 : tG rcAnn rulesAnnR 5 = true := by kernel_rfl
theorem hgA6 : tG rcAnn rulesAnnR 6 = true := by kernel_rfl
theorem hgA7 : tG rcAnn rulesAnnR 7 = true := by kernel_rfl
theorem hgA8 : tG rcAnn rulesAnnR 8 = true := by kernel_rfl
theorem hsA1_0 : tS clAnn rcAnn 1 0 0 = true := by kernel_rfl
theorem hsA2_0 : tS clAnn rcAnn 2 0 0 = true := by kernel_rfl
theorem hsA3_0 : tS clAnn rcAnn 3 0 0 = true := by kernel_rfl
theorem hsA4_0 : tS clAnn rcAnn 4 0 0 = true := by kernel_rfl
theorem hsA5_0 : tS clAnn rcAnn 5 0 0 = true := by kernel_rfl
theorem hsA6_0 : tS clAnn rcAnn 6 0 0 = true := by kernel_rfl
theorem hsA7_0 : tS clAnn rcAnn 7 3 0 = true := by kernel_rfl
theorem hsA7_1 : tS clAnn rcAnn 7 3 1 = true := by kernel_rfl
theorem hsA7_2 : tS clAnn rcAnn 7 3 2 = true := by kernel_rfl
theorem hsA7_3 : tS clAnn rcAnn 7 3 3 = true := by kernel_rfl
theorem hsA7_4 : tS clAnn rcAnn 7 3 4 = true := by kernel_rfl
theorem hsA7_5 : tS clAnn rcAnn 7 3 5 = true := by kernel_rfl
theorem hsA7_6 : tS clAnn rcAnn 7 3 6 = true := by kernel_rfl
theorem hsA7_7 : tS clAnn rcAnn 7 3 7 = true := by kernel_rfl
end Go.Proofs.YtfcpmapfhgibpaaGreatDoor
