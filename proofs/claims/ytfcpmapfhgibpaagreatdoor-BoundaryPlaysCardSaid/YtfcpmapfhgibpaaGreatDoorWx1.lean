/- Kernel checks of Announce. -/
import Derived.Test.YtfcpmapfhgibpaaGreatDoorWu
set_option maxRecDepth 1000000
namespace Go.Proofs.YtfcpmapfhgibpaaGreatDoor
open Go Go.RowKit SX Frm Frn
theorem gA1 : clAnn.good 6 (rulesAnn 1) (clA 1) (clAnn.tree callK (clA 1)) = true := by kernel_rfl
theorem gA2 : clAnn.good 6 (rulesAnn 2) (clA 2) (clAnn.tree callK (clA 2)) = true := by kernel_rfl
theorem gA3 : clAnn.good 6 (rulesAnn 3) (clA 3) (clAnn.tree callK (clA 3)) = true := by kernel_rfl
theorem gA4 : clAnn.good 6 (rulesAnn 4) (clA 4) (clAnn.tree callK (clA 4)) = true := by kernel_rfl
theorem gA5 : clAnn.good 6 (rulesAnn 5) (clA 5) (clAnn.tree callK (clA 5)) = true := by kernel_rfl
theorem gA6 : clAnn.good 6 (rulesAnn 6) (clA 6) (clAnn.tree callK (clA 6)) = true := by kernel_rfl
theorem gA7 : clAnn.good 6 (rulesAnn 7) (clA 7) (clAnn.tree callK (clA 7)) = true := by kernel_rfl
theorem gA8 : clAnn.good 6 (rulesAnn 8) (clA 8) (clAnn.tree callK (clA 8)) = true := by kernel_rfl
end Go.Proofs.YtfcpmapfhgibpaaGreatDoor
