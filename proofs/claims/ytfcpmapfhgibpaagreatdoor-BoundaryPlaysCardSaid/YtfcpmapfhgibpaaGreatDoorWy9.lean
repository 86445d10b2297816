/- Both clocks: more of Send. -/
import Derived.Test.YtfcpmapfhgibpaaGreatDoorWu
set_option maxRecDepth 1000000
namespace Go.Proofs.YtfcpmapfhgibpaaGreatDoor
theorem keP8_8 : keP 8 5 8 = true := by kernel_rfl
theorem keP8_9 : keP 8 5 9 = true := by kernel_rfl
theorem keP8_10 : keP 8 5 10 = true := by kernel_rfl
theorem keP8_11 : keP 8 5 11 = true := by kernel_rfl
theorem keP8_12 : keP 8 5 12 = true := by kernel_rfl
theorem keP8_13 : keP 8 5 13 = true := by kernel_rfl
theorem keP8_14 : keP 8 5 14 = true := by kernel_rfl
theorem keP8_15 : keP 8 5 15 = true := by kernel_rfl
theorem keP8_16 : keP 8 5 16 = true := by kernel_rfl
theorem keP8_17 : keP 8 5 17 = true := by kernel_rfl
theorem keP8_18 : keP 8 5 18 = true := by kernel_rfl
theorem keP8_19 : keP 8 5 19 = true := by kernel_rfl
theorem keP8_20 : keP 8 5 20 = true := by kernel_rfl
theorem keP8_21 : keP 8 5 21 = true := by kernel_rfl
theorem keP8_22 : keP 8 5 22 = true := by kernel_rfl
theorem keP8_23 : keP 8 5 23 = true := by kernel_rfl
end Go.Proofs.YtfcpmapfhgibpaaGreatDoor
