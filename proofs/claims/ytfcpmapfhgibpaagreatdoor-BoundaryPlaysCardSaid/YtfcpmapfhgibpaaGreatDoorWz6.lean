/- Decide of the reference, eight ports, more. -/
import Derived.Test.YtfcpmapfhgibpaaGreatDoorWu
set_option maxRecDepth 1000000
namespace Go.Proofs.YtfcpmapfhgibpaaGreatDoor
theorem dB8_0_4 b g : rB 8 0 4 b g = true := by kernel_rfl
theorem dB8_1_4 b g : rB 8 1 4 b g = true := by kernel_rfl
theorem dB8_0_5 b g : rB 8 0 5 b g = true := by kernel_rfl
theorem dB8_1_5 b g : rB 8 1 5 b g = true := by kernel_rfl
theorem dB8_0_6 b g : rB 8 0 6 b g = true := by kernel_rfl
theorem dB8_1_6 b g : rB 8 1 6 b g = true := by kernel_rfl
theorem dB8_0_7 b g : rB 8 0 7 b g = true := by kernel_rfl
theorem dB8_1_7 b g : rB 8 1 7 b g = true := by kernel_rfl
theorem dE8_0 b g : rE 8 0 b g = true := by kernel_rfl
theorem dE8_1 b g : rE 8 1 b g = true := by kernel_rfl
end Go.Proofs.YtfcpmapfhgibpaaGreatDoor
