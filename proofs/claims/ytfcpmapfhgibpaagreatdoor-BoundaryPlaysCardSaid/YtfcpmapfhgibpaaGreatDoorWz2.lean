/- Decide of the reference, four and five ports. -/
import Derived.Test.YtfcpmapfhgibpaaGreatDoorWu
set_option maxRecDepth 1000000
namespace Go.Proofs.YtfcpmapfhgibpaaGreatDoor
theorem dI4 b : decIn 4 b = true := by kernel_rfl
theorem dA4_0 b g : rA 4 0 b g = true := by kernel_rfl
theorem dA4_1 b g : rA 4 1 b g = true := by kernel_rfl
theorem dA4_2 b g : rA 4 2 b g = true := by kernel_rfl
theorem dA4_3 b g : rA 4 3 b g = true := by kernel_rfl
theorem dX4_t b g : rX 4 b g true = true := by kernel_rfl
theorem dX4_f b g : rX 4 b g false = true := by kernel_rfl
theorem dB4_0_0 b g : rB 4 0 0 b g = true := by kernel_rfl
theorem dB4_1_0 b g : rB 4 1 0 b g = true := by kernel_rfl
theorem dB4_0_1 b g : rB 4 0 1 b g = true := by kernel_rfl
theorem dB4_1_1 b g : rB 4 1 1 b g = true := by kernel_rfl
theorem dB4_0_2 b g : rB 4 0 2 b g = true := by kernel_rfl
theorem dB4_1_2 b g : rB 4 1 2 b g = true := by kernel_rfl
theorem dB4_0_3 b g : rB 4 0 3 b g = true := by kernel_rfl
theorem dB4_1_3 b g : rB 4 1 3 b g = true := by kernel_rfl
theorem dE4_0 b g : rE 4 0 b g = true := by kernel_rfl
theorem dE4_1 b g : rE 4 1 b g = true := by kernel_rfl
theorem dI5 b : decIn 5 b = true := by kernel_rfl
theorem dA5_0 b g : rA 5 0 b g = true := by kernel_rfl
theorem dA5_1 b g : rA 5 1 b g = true := by kernel_rfl
theorem dA5_2 b g : rA 5 2 b g = true := by kernel_rfl
theorem dA5_3 b g : rA 5 3 b g = true := by kernel_rfl
theorem dA5_4 b g : rA 5 4 b g = true := by kernel_rfl
theorem dX5_t b g : rX 5 b g true = true := by kernel_rfl
theorem dX5_f b g : rX 5 b g false = true := by kernel_rfl
theorem dB5_0_0 b g : rB 5 0 0 b g = true := by kernel_rfl
theorem dB5_1_0 b g : rB 5 1 0 b g = true := by kernel_rfl
theorem dB5_0_1 b g : rB 5 0 1 b g = true := by kernel_rfl
theorem dB5_1_1 b g : rB 5 1 1 b g = true := by kernel_rfl
theorem dB5_0_2 b g : rB 5 0 2 b g = true := by kernel_rfl
theorem dB5_1_2 b g : rB 5 1 2 b g = true := by kernel_rfl
theorem dB5_0_3 b g : rB 5 0 3 b g = true := by kernel_rfl
theorem dB5_1_3 b g : rB 5 1 3 b g = true := by kernel_rfl
theorem dB5_0_4 b g : rB 5 0 4 b g = true := by kernel_rfl
theorem dB5_1_4 b g : rB 5 1 4 b g = true := by kernel_rfl
theorem dE5_0 b g : rE 5 0 b g = true := by kernel_rfl
theorem dE5_1 b g : rE 5 1 b g = true := by kernel_rfl
end Go.Proofs.YtfcpmapfhgibpaaGreatDoor
