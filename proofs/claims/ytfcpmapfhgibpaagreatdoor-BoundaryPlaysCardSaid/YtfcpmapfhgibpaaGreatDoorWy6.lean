/- Both clocks: kernel checks of Send. -/
import Derived.Test.YtfcpmapfhgibpaaGreatDoorWu
set_option maxRecDepth 1000000
namespace Go.Proofs.YtfcpmapfhgibpaaGreatDoor
theorem kgP1_0 : kgP 1 0 0 = true := by kernel_rfl
theorem keP1_0 : keP 1 0 0 = true := by kernel_rfl
theorem kgP2_0 : kgP 2 0 0 = true := by kernel_rfl
theorem keP2_0 : keP 2 0 0 = true := by kernel_rfl
theorem kgP3_0 : kgP 3 0 0 = true := by kernel_rfl
theorem keP3_0 : keP 3 0 0 = true := by kernel_rfl
theorem kgP4_0 : kgP 4 0 0 = true := by kernel_rfl
theorem keP4_0 : keP 4 0 0 = true := by kernel_rfl
theorem kgP5_0 : kgP 5 0 0 = true := by kernel_rfl
theorem keP5_0 : keP 5 0 0 = true := by kernel_rfl
theorem kgP6_0 : kgP 6 2 0 = true := by kernel_rfl
theorem kgP6_1 : kgP 6 2 1 = true := by kernel_rfl
theorem kgP6_2 : kgP 6 2 2 = true := by kernel_rfl
theorem kgP6_3 : kgP 6 2 3 = true := by kernel_rfl
theorem keP6_0 : keP 6 3 0 = true := by kernel_rfl
theorem keP6_1 : keP 6 3 1 = true := by kernel_rfl
theorem keP6_2 : keP 6 3 2 = true := by kernel_rfl
theorem keP6_3 : keP 6 3 3 = true := by kernel_rfl
theorem keP6_4 : keP 6 3 4 = true := by kernel_rfl
theorem keP6_5 : keP 6 3 5 = true := by kernel_rfl
theorem keP6_6 : keP 6 3 6 = true := by kernel_rfl
theorem keP6_7 : keP 6 3 7 = true := by kernel_rfl
theorem kgP7_0 : kgP 7 3 0 = true := by kernel_rfl
theorem kgP7_1 : kgP 7 3 1 = true := by kernel_rfl
theorem kgP7_2 : kgP 7 3 2 = true := by kernel_rfl
theorem kgP7_3 : kgP 7 3 3 = true := by kernel_rfl
theorem kgP7_4 : kgP 7 3 4 = true := by kernel_rfl
theorem kgP7_5 : kgP 7 3 5 = true := by kernel_rfl
theorem kgP7_6 : kgP 7 3 6 = true := by kernel_rfl
theorem kgP7_7 : kgP 7 3 7 = true := by kernel_rfl
end Go.Proofs.YtfcpmapfhgibpaaGreatDoor
