/- Decide of the reference, eight ports. -/
import Derived.Test.YtfcpmapfhgibpaaGreatDoorWu
set_option maxRecDepth 1000000
namespace Go.Proofs.YtfcpmapfhgibpaaGreatDoor
theorem dI8 b : decIn 8 b = true := by kernel_rfl
theorem dA8_0 b g : rA 8 0 b g = true := by kernel_rfl
theorem dA8_1 b g : rA 8 1 b g = true := by kernel_rfl
theorem dA8_2 b g : rA 8 2 b g = true := by kernel_rfl
theorem dA8_3 b g : rA 8 3 b g = true := by kernel_rfl
theorem dA8_4 b g : rA 8 4 b g = true := by kernel_rfl
theorem dA8_5 b g : rA 8 5 b g = true := by kernel_rfl
theorem dA8_6 b g : rA 8 6 b g = true := by kernel_rfl
theorem dA8_7 b g : rA 8 7 b g = true := by kernel_rfl
theorem dX8_t b g : rX 8 b g true = true := by kernel_rfl
theorem dX8_f b g : rX 8 b g false = true := by kernel_rfl
theorem dB8_0_0 b g : rB 8 0 0 b g = true := by kernel_rfl
theorem dB8_1_0 b g : rB 8 1 0 b g = true := by kernel_rfl
theorem dB8_0_1 b g : rB 8 0 1 b g = true := by kernel_rfl
theorem dB8_1_1 b g : rB 8 1 1 b g = true := by kernel_rfl
theorem dB8_0_2 b g : rB 8 0 2 b g = true := by kernel_rfl
theorem dB8_1_2 b g : rB 8 1 2 b g = true := by kernel_rfl
theorem dB8_0_3 b g : rB 8 0 3 b g = true := by kernel_rfl
theorem dB8_1_3 b g : rB 8 1 3 b g = true := by kernel_rfl
end Go.Proofs.YtfcpmapfhgibpaaGreatDoor
