/- Kernel checks of Send, eight ports. -/
import Derived.Test.YtfcpmapfhgibpaaGreatDoorWu
set_option maxRecDepth 1000000
namespace Go.Proofs.YtfcpmapfhgibpaaGreatDoor
theorem qP8_0 : qP 8 5 0 = true := by kernel_rfl
theorem qP8_1 : qP 8 5 1 = true := by kernel_rfl
theorem qP8_2 : qP 8 5 2 = true := by kernel_rfl
theorem qP8_3 : qP 8 5 3 = true := by kernel_rfl
theorem qP8_4 : qP 8 5 4 = true := by kernel_rfl
theorem qP8_5 : qP 8 5 5 = true := by kernel_rfl
theorem qP8_6 : qP 8 5 6 = true := by kernel_rfl
theorem qP8_7 : qP 8 5 7 = true := by kernel_rfl
theorem qP8_8 : qP 8 5 8 = true := by kernel_rfl
theorem qP8_9 : qP 8 5 9 = true := by kernel_rfl
theorem qP8_10 : qP 8 5 10 = true := by kernel_rfl
theorem qP8_11 : qP 8 5 11 = true := by kernel_rfl
theorem qP8_12 : qP 8 5 12 = true := by kernel_rfl
theorem qP8_13 : qP 8 5 13 = true := by kernel_rfl
theorem qP8_14 : qP 8 5 14 = true := by kernel_rfl
theorem qP8_15 : qP 8 5 15 = true := by kernel_rfl
end Go.Proofs.YtfcpmapfhgibpaaGreatDoor
