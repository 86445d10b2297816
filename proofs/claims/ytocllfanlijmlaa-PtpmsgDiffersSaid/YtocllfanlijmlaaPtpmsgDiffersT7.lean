/- The law PtpmsgDiffers of layer 33: trees. -/
import Derived.Test.YtocllfanlijmlaaPtpmsgDiffersH
namespace Go.Proofs.Ytocllfanlijmlaa
open Go Go.RowKit SX
set_option linter.unusedVariables false
set_option maxRecDepth 1000000 in
theorem dif_tree70 : (cannot [(okE 0, true), (okE 21, true), (eqN 0 0, false), (eqN 0 1, false), (eqN 0 2, false), (eqN 0 3, false), (eqN 0 8, false), (eqN 0 9, false), (eqN 0 10, false), (eqN 0 11, true), (eqN 21 0, false), (eqN 21 1, false), (eqN 21 2, false), (eqN 21 3, false), (eqN 21 8, false), (eqN 21 9, false), (eqN 21 10, false), (eqN 21 11, true)] || (difT [(okE 0, true), (okE 21, true), (eqN 0 0, false), (eqN 0 1, false), (eqN 0 2, false), (eqN 0 3, false), (eqN 0 8, false), (eqN 0 9, false), (eqN 0 10, false), (eqN 0 11, true), (eqN 21 0, false), (eqN 21 1, false), (eqN 21 2, false), (eqN 21 3, false), (eqN 21 8, false), (eqN 21 9, false), (eqN 21 10, false), (eqN 21 11, true)]).all isTrueD) = true := by kernel_rfl
set_option maxRecDepth 1000000 in
theorem dif_tree71 : (cannot [(okE 0, true), (okE 21, true), (eqN 0 0, false), (eqN 0 1, false), (eqN 0 2, false), (eqN 0 3, false), (eqN 0 8, false), (eqN 0 9, false), (eqN 0 10, false), (eqN 0 11, true), (eqN 21 0, false), (eqN 21 1, false), (eqN 21 2, false), (eqN 21 3, false), (eqN 21 8, false), (eqN 21 9, false), (eqN 21 10, false), (eqN 21 11, false)] || (difT [(okE 0, true), (okE 21, true), (eqN 0 0, false), (eqN 0 1, false), (eqN 0 2, false), (eqN 0 3, false), (eqN 0 8, false), (eqN 0 9, false), (eqN 0 10, false), (eqN 0 11, true), (eqN 21 0, false), (eqN 21 1, false), (eqN 21 2, false), (eqN 21 3, false), (eqN 21 8, false), (eqN 21 9, false), (eqN 21 10, false), (eqN 21 11, false)]).all isTrueD) = true := by kernel_rfl
set_option maxRecDepth 1000000 in
theorem dif_tree72 : (cannot [(okE 0, true), (okE 21, true), (eqN 0 0, false), (eqN 0 1, false), (eqN 0 2, false), (eqN 0 3, false), (eqN 0 8, false), (eqN 0 9, false), (eqN 0 10, false), (eqN 0 11, false)] || (difT [(okE 0, true), (okE 21, true), (eqN 0 0, false), (eqN 0 1, false), (eqN 0 2, false), (eqN 0 3, false), (eqN 0 8, false), (eqN 0 9, false), (eqN 0 10, false), (eqN 0 11, false)]).all isTrueD) = true := by kernel_rfl
set_option maxRecDepth 1000000 in
theorem dif_tree73 : (cannot [(okE 0, true), (okE 21, false)] || (difT [(okE 0, true), (okE 21, false)]).all isTrueD) = true := by kernel_rfl
set_option maxRecDepth 1000000 in
theorem dif_tree74 : (cannot [(okE 0, false)] || (difT [(okE 0, false)]).all isTrueD) = true := by kernel_rfl
end Go.Proofs.Ytocllfanlijmlaa
