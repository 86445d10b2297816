/- Kernel checks of Decide. -/
import Derived.Test.YtfcpmapfhgibpaaGreatDoorWu
set_option maxRecDepth 1000000
namespace Go.Proofs.YtfcpmapfhgibpaaGreatDoor
open Go Go.RowKit SX Frm Frn
theorem gD1 : clDec.good 6 (rulesDec 1) (clA 1) (clDec.m.tree callK (clA 1)) = true := by kernel_rfl
theorem gD2 : clDec.good 6 (rulesDec 2) (clA 2) (clDec.m.tree callK (clA 2)) = true := by kernel_rfl
theorem gD3 : clDec.good 6 (rulesDec 3) (clA 3) (clDec.m.tree callK (clA 3)) = true := by kernel_rfl
theorem gD4 : clDec.good 6 (rulesDec 4) (clA 4) (clDec.m.tree callK (clA 4)) = true := by kernel_rfl
theorem gD5 : clDec.good 6 (rulesDec 5) (clA 5) (clDec.m.tree callK (clA 5)) = true := by kernel_rfl
theorem gD6 : clDec.good 6 (rulesDec 6) (clA 6) (clDec.m.tree callK (clA 6)) = true := by kernel_rfl
theorem gD7 : clDec.good 6 (rulesDec 7) (clA 7) (clDec.m.tree callK (clA 7)) = true := by kernel_rfl
theorem gD8 : clDec.good 6 (rulesDec 8) (clA 8) (clDec.m.tree callK (clA 8)) = true := by kernel_rfl
end Go.Proofs.YtfcpmapfhgibpaaGreatDoor
