/- Decide of the reference, seven ports. -/
import Derived.Test.YtfcpmapfhgibpaaGreatDoorWu
set_option maxRecDepth 1000000
namespace Go.Proofs.YtfcpmapfhgibpaaGreatDoor
theorem dI7 b : decIn 7 b = true := by kernel_rfl
theorem dA7_0 b g : rA 7 0 b g = true := by kernel_rfl
theorem dA7_1 b g : rA 7 1 b g = true := by kernel_rfl
theorem dA7_2 b g : rA 7 2 b g = true := by kernel_rfl
theorem dA7_3 b g : rA 7 3 b g = true := by kernel_rfl
theorem dA7_4 b g : rA 7 4 b g = true := by kernel_rfl
theorem dA7_5 b g : rA 7 5 b g = true := by kernel_rfl
theorem dA7_6 b g : rA 7 6 b g = true := by kernel_rfl
theorem dX7_t b g : rX 7 b g true = true := by kernel_rfl
theorem dX7_f b g : rX 7 b g false = true := by kernel_rfl
theorem dB7_0_0 b g : rB 7 0 0 b g = true := by kernel_rfl
theorem dB7_1_0 b g : rB 7 1 0 b g = true := by kernel_rfl
theorem dB7_0_1 b g : rB 7 0 1 b g = true := by kernel_rfl
theorem dB7_1_1 b g : rB 7 1 1 b g = true := by kernel_rfl
theorem dB7_0_2 b g : rB 7 0 2 b g = true := by kernel_rfl
theorem dB7_1_2 b g : rB 7 1 2 b g = true := by kernel_rfl
theorem dB7_0_3 b g : rB 7 0 3 b g = true := by kernel_rfl
theorem dB7_1_3 b g : rB 7 1 3 b g = true := by kernel_rfl
theorem dB7_0_4 b g : rB 7 0 4 b g = true := by kernel_rfl
theorem dB7_1_4 b g : rB 7 1 4 b g = true := by kernel_rfl
theorem dB7_0_5 b g : rB 7 0 5 b g = true := by kernel_rfl
theorem dB7_1_5 b g : rB 7 1 5 b g = true := by kernel_rfl
theorem dB7_0_6 b g : rB 7 0 6 b g = true := by kernel_rfl
theorem dB7_1_6 b g : rB 7 1 6 b g = true := by kernel_rfl
theorem dE7_0 b g : rE 7 0 b g = true := by kernel_rfl
theorem dE7_1 b g : rE 7 1 b g = true := by kernel_rfl
end Go.Proofs.YtfcpmapfhgibpaaGreatDoor
