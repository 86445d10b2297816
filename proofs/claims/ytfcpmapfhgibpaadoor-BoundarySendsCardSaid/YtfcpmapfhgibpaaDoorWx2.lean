/- Kernel checks of Sync. -/
import Derived.Test.YtfcpmapfhgibpaaDoorWu
namespace Go.Proofs.YtfcpmapfhgibpaaDoor
open Go Go.RowKit SX Frm Frn
set_option maxRecDepth 1000000 in
theorem gS1 : clSync.good 6 (rulesSync 1) (clA 1) (clSync.tree callK (clA 1)) = true := by kernel_rfl
set_option maxRecDepth 1000000 in
theorem gS2 : clSync.good 6 (rulesSync 2) (clA 2) (clSync.tree callK (clA 2)) = true := by kernel_rfl
set_option maxRecDepth 1000000 in
theorem gS3 : clSync.good 6 (rulesSync 3) (clA 3) (clSync.tree callK (clA 3)) = true := by kernel_rfl
set_option maxRecDepth 1000000 in
theorem gS4 : clSync.good 6 (rulesSync 4) (clA 4) (clSync.tree callK (clA 4)) = true := by kernel_rfl
set_option maxRecDepth 1000000 in
theorem gS5 : clSync.good 6 (rulesSync 5) (clA 5) (clSync.tree callK (clA 5)) = true := by kernel_rfl
set_option maxRecDepth 1000000 in
theorem gS6 : clSync.good 6 (rulesSync 6) (clA 6) (clSync.tree callK (clA 6)) = true := by kernel_rfl
end Go.Proofs.YtfcpmapfhgibpaaDoor
namespace Go.Proofs.YtfcpmapfhgibpaaDoor
open Go Go.RowKit SX Frm Frn
set_option maxRecDepth 1000000 in
theorem gS7 : clSync.good 6 (rulesSync 7) (clA 7) (clSync.tree callK (clA 7)) = true := by kernel_rfl
set_option maxRecDepth 1000000 in
theorem gS8 : clSync.good 6 (rulesSync 8) (clA 8) (clSync.tree callK (clA 8)) = true := by kernel_rfl
end Go.Proofs.YtfcpmapfhgibpaaDoor
