/- Kernel checks of Send, eight ports, the second part. -/
import Derived.Test.YtfcpmapfhgibpaaDoorWu
namespace Go.Proofs.YtfcpmapfhgibpaaDoor
open Go Go.RowKit SX Frm Frn
set_option maxRecDepth 1000000 in
theorem gE8tfttt : clSend.part 6 [] (clA 8) [true, false, true, true, true] (clSend.m.tree callK (clA 8)) = true := by kernel_rfl
set_option maxRecDepth 1000000 in
theorem gE8tfttf : clSend.part 6 [] (clA 8) [true, false, true, true, false] (clSend.m.tree callK (clA 8)) = true := by kernel_rfl
set_option maxRecDepth 1000000 in
theorem gE8tftft : clSend.part 6 [] (clA 8) [true, false, true, false, true] (clSend.m.tree callK (clA 8)) = true := by kernel_rfl
set_option maxRecDepth 1000000 in
theorem gE8tftff : clSend.part 6 [] (clA 8) [true, false, true, false, false] (clSend.m.tree callK (clA 8)) = true := by kernel_rfl
set_option maxRecDepth 1000000 in
theorem gE8tfftt : clSend.part 6 [] (clA 8) [true, false, false, true, true] (clSend.m.tree callK (clA 8)) = true := by kernel_rfl
set_option maxRecDepth 1000000 in
theorem gE8tfftf : clSend.part 6 [] (clA 8) [true, false, false, true, false] (clSend.m.tree callK (clA 8)) = true := by kernel_rfl
set_option maxRecDepth 1000000 in
theorem gE8tffft : clSend.part 6 [] (clA 8) [true, false, false, false, true] (clSend.m.tree callK (clA 8)) = true := by kernel_rfl
set_option maxRecDepth 1000000 in
theorem gE8tffff : clSend.part 6 [] (clA 8) [true, false, false, false, false] (clSend.m.tree callK (clA 8)) = true := by kernel_rfl
end Go.Proofs.YtfcpmapfhgibpaaDoor
