/- The law PtpmsgDiffers of layer 33: trees. -/
import Derived.Test.YtocllfanlijmlaaPtpmsgDiffersH
namespace Go.Proofs.Ytocllfanlijmlaa
open Go Go.RowKit SX
set_option linter.unusedVariables false
set_option maxRecDepth 1000000 in
theorem dif_tree0 : (cannot [(okE 0, true), (okE 21, true), (eqN 0 0, true), (eqN 21 0, true)] || (difT [(okE 0, true), (okE 21, true), (eqN 0 0, true), (eqN 21 0, true)]).all isTrueD) = true := by kernel_rfl
set_option maxRecDepth 1000000 in
theorem dif_tree1 : (cannot [(okE 0, true), (okE 21, true), (eqN 0 0, true), (eqN 21 0, false), (eqN 21 1, true)] || (difT [(okE 0, true), (okE 21, true), (eqN 0 0, true), (eqN 21 0, false), (eqN 21 1, true)]).all isTrueD) = true := by kernel_rfl
set_option maxRecDepth 1000000 in
theorem dif_tree2 : (cannot [(okE 0, true), (okE 21, true), (eqN 0 0, true), (eqN 21 0, false), (eqN 21 1, false), (eqN 21 2, true)] || (difT [(okE 0, true), (okE 21, true), (eqN 0 0, true), (eqN 21 0, false), (eqN 21 1, false), (eqN 21 2, true)]).all isTrueD) = true := by kernel_rfl
set_option maxRecDepth 1000000 in
theorem dif_tree3 : (cannot [(okE 0, true), (okE 21, true), (eqN 0 0, true), (eqN 21 0, false), (eqN 21 1, false), (eqN 21 2, false), (eqN 21 3, true)] || (difT [(okE 0, true), (okE 21, true), (eqN 0 0, true), (eqN 21 0, false), (eqN 21 1, false), (eqN 21 2, false), (eqN 21 3, true)]).all isTrueD) = true := by kernel_rfl
set_option maxRecDepth 1000000 in
theorem dif_tree4 : (cannot [(okE 0, true), (okE 21, true), (eqN 0 0, true), (eqN 21 0, false), (eqN 21 1, false), (eqN 21 2, false), (eqN 21 3, false), (eqN 21 8, true)] || (difT [(okE 0, true), (okE 21, true), (eqN 0 0, true), (eqN 21 0, false), (eqN 21 1, false), (eqN 21 2, false), (eqN 21 3, false), (eqN 21 8, true)]).all isTrueD) = true := by kernel_rfl
set_option maxRecDepth 1000000 in
theorem dif_tree5 : (cannot [(okE 0, true), (okE 21, true), (eqN 0 0, true), (eqN 21 0, false), (eqN 21 1, false), (eqN 21 2, false), (eqN 21 3, false), (eqN 21 8, false), (eqN 21 9, true)] || (difT [(okE 0, true), (okE 21, true), (eqN 0 0, true), (eqN 21 0, false), (eqN 21 1, false), (eqN 21 2, false), (eqN 21 3, false), (eqN 21 8, false), (eqN 21 9, true)]).all isTrueD) = true := by kernel_rfl
set_option maxRecDepth 1000000 in
theorem dif_tree6 : (cannot [(okE 0, true), (okE 21, true), (eqN 0 0, true), (eqN 21 0, false), (eqN 21 1, false), (eqN 21 2, false), (eqN 21 3, false), (eqN 21 8, false), (eqN 21 9, false), (eqN 21 10, true)] || (difT [(okE 0, true), (okE 21, true), (eqN 0 0, true), (eqN 21 0, false), (eqN 21 1, false), (eqN 21 2, false), (eqN 21 3, false), (eqN 21 8, false), (eqN 21 9, false), (eqN 21 10, true)]).all isTrueD) = true := by kernel_rfl
set_option maxRecDepth 1000000 in
theorem dif_tree7 : (cannot [(okE 0, true), (okE 21, true), (eqN 0 0, true), (eqN 21 0, false), (eqN 21 1, false), (eqN 21 2, false), (eqN 21 3, false), (eqN 21 8, false), (eqN 21 9, false), (eqN 21 10, false), (eqN 21 11, true)] || (difT [(okE 0, true), (okE 21, true), (eqN 0 0, true), (eqN 21 0, false), (eqN 21 1, false), (eqN 21 2, false), (eqN 21 3, false), (eqN 21 8, false), (eqN 21 9, false), (eqN 21 10, false), (eqN 21 11, true)]).all isTrueD) = true := by kernel_rfl
set_option maxRecDepth 1000000 in
theorem dif_tree8 : (cannot [(okE 0, true), (okE 21, true), (eqN 0 0, true), (eqN 21 0, false), (eqN 21 1, false), (eqN 21 2, false), (eqN 21 3, false), (eqN 21 8, false), (eqN 21 9, false), (eqN 21 10, false), (eqN 21 11, false)] || (difT [(okE 0, true), (okE 21, true), (eqN 0 0, true), (eqN 21 0, false), (eqN 21 1, false), (eqN 21 2, false), (eqN 21 3, false), (eqN 21 8, false), (eqN 21 9, false), (eqN 21 10, false), (eqN 21 11, false)]).all isTrueD) = true := by kernel_rfl
set_option maxRecDepth 1000000 in
theorem dif_tree9 : (cannot [(okE 0, true), (okE 21, true), (eqN 0 0, false), (eqN 0 1, true), (eqN 21 0, true)] || (difT [(okE 0, true), (okE 21, true), (eqN 0 0, false), (eqN 0 1, true), (eqN 21 0, true)]).all isTrueD) = true := by kernel_rfl
end Go.Proofs.Ytocllfanlijmlaa
