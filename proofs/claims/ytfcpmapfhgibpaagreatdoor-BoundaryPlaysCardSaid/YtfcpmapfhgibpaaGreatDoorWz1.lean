/- Decide of the reference, one to three ports. -/
import Derived.Test.YtfcpmapfhgibpaaGreatDoorWu
set_option maxRecDepth 1000000
namespace Go.Proofs.YtfcpmapfhgibpaaGreatDoor
theorem dI1 b : decIn 1 b = true := by kernel_rfl
theorem dA1_0 b g : rA 1 0 b g = true := by kernel_rfl
theorem dX1_t b g : rX 1 b g true = true := by kernel_rfl
theorem dX1_f b g : rX 1 b g false = true := by kernel_rfl
theorem dB1_0_0 b g : rB 1 0 0 b g = true := by kernel_rfl
theorem dB1_1_0 b g : rB 1 1 0 b g = true := by kernel_rfl
theorem dE1_0 b g : rE 1 0 b g = true := by kernel_rfl
theorem dE1_1 b g : rE 1 1 b g = true := by kernel_rfl
theorem dI2 b : decIn 2 b = true := by kernel_rfl
theorem dA2_0 b g : rA 2 0 b g = true := by kernel_rfl
theorem dA2_1 b g : rA 2 1 b g = true := by kernel_rfl
theorem dX2_t b g : rX 2 b g true = true := by kernel_rfl
theorem dX2_f b g : rX 2 b g false = true := by kernel_rfl
theorem dB2_0_0 b g : rB 2 0 0 b g = true := by kernel_rfl
theorem dB2_1_0 b g : rB 2 1 0 b g = true := by kernel_rfl
theorem dB2_0_1 b g : rB 2 0 1 b g = true := by kernel_rfl
theorem dB2_1_1 b g : rB 2 1 1 b g = true := by kernel_rfl
theorem dE2_0 b g : rE 2 0 b g = true := by kernel_rfl
theorem dE2_1 b g : rE 2 1 b g = true := by kernel_rfl
theorem dI3 b : decIn 3 b = true := by kernel_rfl
theorem dA3_0 b g : rA 3 0 b g = true := by kernel_rfl
theorem dA3_1 b g : rA 3 1 b g = true := by kernel_rfl
theorem dA3_2 b g : rA 3 2 b g = true := by kernel_rfl
theorem dX3_t b g : rX 3 b g true = true := by kernel_rfl
theorem dX3_f b g : rX 3 b g false = true := by kernel_rfl
theorem dB3_0_0 b g : rB 3 0 0 b g = true := by kernel_rfl
theorem dB3_1_0 b g : rB 3 1 0 b g = true := by kernel_rfl
theorem dB3_0_1 b g : rB 3 0 1 b g = true := by kernel_rfl
theorem dB3_1_1 b g : rB 3 1 1 b g = true := by kernel_rfl
theorem dB3_0_2 b g : rB 3 0 2 b g = true := by kernel_rfl
theorem dB3_1_2 b g : rB 3 1 2 b g = true := by kernel_rfl
theorem dE3_0 b g : rE 3 0 b g = true := by kernel_rfl
theorem dE3_1 b g : rE 3 1 b g = true := by kernel_rfl
end Go.Proofs.YtfcpmapfhgibpaaGreatDoor
