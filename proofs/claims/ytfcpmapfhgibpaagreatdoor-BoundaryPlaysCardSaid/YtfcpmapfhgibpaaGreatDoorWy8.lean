/- Both clocks: more of Send. -/
import Derived.Test.YtfcpmapfhgibpaaGreatDoorWu
set_option maxRecDepth 1000000
namespace Go.Proofs.YtfcpmapfhgibpaaGreatDoor
theorem kgP8_16 : kgP 8 5 16 = true := by kernel_rfl
theorem kgP8_17 : kgP 8 5 17 = true := by kernel_rfl
theorem kgP8_18 : kgP 8 5 18 = true := by kernel_rfl
theorem kgP8_19 : kgP 8 5 19 = true := by kernel_rfl
theorem kgP8_20 : kgP 8 5 20 = true := by kernel_rfl
theorem kgP8_21 : kgP 8 5 21 = true := by kernel_rfl
theorem kgP8_22 : kgP 8 5 22 = true := by kernel_rfl
theorem kgP8_23 : kgP 8 5 23 = true := by kernel_rfl
theorem kgP8_24 : kgP 8 5 24 = true := by kernel_rfl
theorem kgP8_25 : kgP 8 5 25 = true := by kernel_rfl
theorem kgP8_26 : kgP 8 5 26 = true := by kernel_rfl
theorem kgP8_27 : kgP 8 5 27 = true := by kernel_rfl
theorem kgP8_28 : kgP 8 5 28 = true := by kernel_rfl
theorem kgP8_29 : kgP 8 5 29 = true := by kernel_rfl
theorem kgP8_30 : kgP 8 5 30 = true := by kernel_rfl
theorem kgP8_31 : kgP 8 5 31 = true := by kernel_rfl
theorem keP8_0 : keP 8 5 0 = true := by kernel_rfl
theorem keP8_1 : keP 8 5 1 = true := by kernel_rfl
theorem keP8_2 : keP 8 5 2 = true := by kernel_rfl
theorem keP8_3 : keP 8 5 3 = true := by kernel_rfl
theorem keP8_4 : keP 8 5 4 = true := by kernel_rfl
theorem keP8_5 : keP 8 5 5 = true := by kernel_rfl
theorem keP8_6 : keP 8 5 6 = true := by kernel_rfl
theorem keP8_7 : keP 8 5 7 = true := by kernel_rfl
end Go.Proofs.YtfcpmapfhgibpaaGreatDoor
