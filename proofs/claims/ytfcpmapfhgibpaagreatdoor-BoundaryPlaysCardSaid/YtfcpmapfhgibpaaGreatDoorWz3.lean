/- Decide of the reference, six ports. -/
import Derived.Test.YtfcpmapfhgibpaaGreatDoorWu
set_option maxRecDepth 1000000
namespace Go.Proofs.YtfcpmapfhgibpaaGreatDoor
theorem dI6 b : decIn 6 b = true := by kernel_rfl
theorem dA6_0 b g : rA 6 0 b g = true := by kernel_rfl
theorem dA6_1 b g : rA 6 1 b g = true := by kernel_rfl
theorem dA6_2 b g : rA 6 2 b g = true := by kernel_rfl
theorem dA6_3 b g : rA 6 3 b g = true := by kernel_rfl
theorem dA6_4 b g : rA 6 4 b g = true := by kernel_rfl
theorem dA6_5 b g : rA 6 5 b g = true := by kernel_rfl
theorem dX6_t b g : rX 6 b g true = true := by kernel_rfl
theorem dX6_f b g : rX 6 b g false = true := by kernel_rfl
theorem dB6_0_0 b g : rB 6 0 0 b g = true := by kernel_rfl
theorem dB6_1_0 b g : rB 6 1 0 b g = true := by kernel_rfl
theorem dB6_0_1 b g : rB 6 0 1 b g = true := by kernel_rfl
theorem dB6_1_1 b g : rB 6 1 1 b g = true := by kernel_rfl
theorem dB6_0_2 b g : rB 6 0 2 b g = true := by kernel_rfl
theorem dB6_1_2 b g : rB 6 1 2 b g = true := by kernel_rfl
theorem dB6_0_3 b g : rB 6 0 3 b g = true := by kernel_rfl
theorem dB6_1_3 b g : rB 6 1 3 b g = true := by kernel_rfl
theorem dB6_0_4 b g : rB 6 0 4 b g = true := by kernel_rfl
theorem dB6_1_4 b g : rB 6 1 4 b g = true := by kernel_rfl
theorem dB6_0_5 b g : rB 6 0 5 b g = true := by kernel_rfl
theorem dB6_1_5 b g : rB 6 1 5 b g = true := by kernel_rfl
theorem dE6_0 b g : rE 6 0 b g = true := by kernel_rfl
theorem dE6_1 b g : rE 6 1 b g = true := by kernel_rfl
end Go.Proofs.YtfcpmapfhgibpaaGreatDoor
