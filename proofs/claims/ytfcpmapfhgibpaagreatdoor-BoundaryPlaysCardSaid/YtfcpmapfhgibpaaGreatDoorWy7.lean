/- Both clocks: more of Send. -/
import Derived.Test.YtfcpmapfhgibpaaGreatDoorWu
set_option maxRecDepth 1000000
namespace Go.Proofs.YtfcpmapfhgibpaaGreatDoor
theorem keP7_0 : keP 7 4 0 = true := by kernel_rfl
theorem keP7_1 : keP 7 4 1 = true := by kernel_rfl
theorem keP7_2 : keP 7 4 2 = true := by kernel_rfl
theorem keP7_3 : keP 7 4 3 = true := by kernel_rfl
theorem keP7_4 : keP 7 4 4 = true := by kernel_rfl
theorem keP7_5 : keP 7 4 5 = true := by kernel_rfl
theorem keP7_6 : keP 7 4 6 = true := by kernel_rfl
theorem keP7_7 : keP 7 4 7 = true := by kernel_rfl
theorem keP7_8 : keP 7 4 8 = true := by kernel_rfl
theorem keP7_9 : keP 7 4 9 = true := by kernel_rfl
theorem keP7_10 : keP 7 4 10 = true := by kernel_rfl
theorem keP7_11 : keP 7 4 11 = true := by kernel_rfl
theorem keP7_12 : keP 7 4 12 = true := by kernel_rfl
theorem keP7_13 : keP 7 4 13 = true := by kernel_rfl
theorem keP7_14 : keP 7 4 14 = true := by kernel_rfl
theorem keP7_15 : keP 7 4 15 = true := by kernel_rfl
theorem kgP8_0 : kgP 8 5 0 = true := by kernel_rfl
theorem kgP8_1 : kgP 8 5 1 = true := by kernel_rfl
theorem kgP8_2 : kgP 8 5 2 = true := by kernel_rfl
theorem kgP8_3 : kgP 8 5 3 = true := by kernel_rfl
theorem kgP8_4 : kgP 8 5 4 = true := by kernel_rfl
theorem kgP8_5 : kgP 8 5 5 = true := by kernel_rfl
theorem kgP8_6 : kgP 8 5 6 = true := by kernel_rfl
theorem kgP8_7 : kgP 8 5 7 = true := by kernel_rfl
theorem kgP8_8 : kgP 8 5 8 = true := by kernel_rfl
theorem kgP8_9 : kgP 8 5 9 = true := by kernel_rfl
theorem kgP8_10 : kgP 8 5 10 = true := by kernel_rfl
theorem kgP8_11 : kgP 8 5 11 = true := by kernel_rfl
theorem kgP8_12 : kgP 8 5 12 = true := by kernel_rfl
theorem kgP8_13 : kgP 8 5 13 = true := by kernel_rfl
theorem kgP8_14 : kgP 8 5 14 = true := by kernel_rfl
theorem kgP8_15 : kgP 8 5 15 = true := by kernel_rfl
end Go.Proofs.YtfcpmapfhgibpaaGreatDoor
