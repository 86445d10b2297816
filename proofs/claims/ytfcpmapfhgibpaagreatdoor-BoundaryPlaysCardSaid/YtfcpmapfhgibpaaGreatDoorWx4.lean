/- Kernel checks of Send, one to seven ports. -/
import Derived.Test.YtfcpmapfhgibpaaGreatDoorWu
set_option maxRecDepth 1000000
namespace Go.Proofs.YtfcpmapfhgibpaaGreatDoor
section
open Go Go.RowKit SX Frm Frn
theorem gE1 : clSend.good 6 [] (clA 1) (clSend.m.tree callK (clA 1)) = true := by kernel_rfl
theorem gE2 : clSend.good 6 [] (clA 2) (clSend.m.tree callK (clA 2)) = true := by kernel_rfl
theorem gE3 : clSend.good 6 [] (clA 3) (clSend.m.tree callK (clA 3)) = true := by kernel_rfl
theorem gE4 : clSend.good 6 [] (clA 4) (clSend.m.tree callK (clA 4)) = true := by kernel_rfl
theorem gE5 : clSend.good 6 [] (clA 5) (clSend.m.tree callK (clA 5)) = true := by kernel_rfl
end
section
theorem qP6_0 : qP 6 2 0 = true := by kernel_rfl
theorem qP6_1 : qP 6 2 1 = true := by kernel_rfl
theorem qP6_2 : qP 6 2 2 = true := by kernel_rfl
theorem qP6_3 : qP 6 2 3 = true := by kernel_rfl
theorem qP7_0 : qP 7 3 0 = true := by kernel_rfl
theorem qP7_1 : qP 7 3 1 = true := by kernel_rfl
theorem qP7_2 : qP 7 3 2 = true := by kernel_rfl
theorem qP7_3 : qP 7 3 3 = true := by kernel_rfl
theorem qP7_4 : qP 7 3 4 = true := by kernel_rfl
theorem qP7_5 : qP 7 3 5 = true := by kernel_rfl
theorem qP7_6 : qP 7 3 6 = true := by kernel_rfl
theorem qP7_7 : qP 7 3 7 = true := by kernel_rfl
end
end Go.Proofs.YtfcpmapfhgibpaaGreatDoor
