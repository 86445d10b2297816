/- Kernel checks of Send, eight ports, the first part. -/
import Derived.Test.YtfcpmapfhgibpaaDoorWu
namespace Go.Proofs.YtfcpmapfhgibpaaDoor
open Go Go.RowKit SX Frm Frn
set_option maxRecDepth 1000000 in
theorem gE8ttttt : clSend.part 6 [] (clA 8) [true, true, true, true, true] (clSend.m.tree callK (clA 8)) = true := by kernel_rfl
set_option maxRecDepth 1000000 in
theorem gE8ttttf : clSend.part 6 [] (clA 8) [true, true, true, true, false] (clSend.m.tree callK (clA 8)) = true := by kernel_rfl
set_option maxRecDepth 1000000 in
theorem gE8tttft : clSend.part 6 [] (clA 8) [true, true, true, false, true] (clSend.m.tree callK (clA 8)) = true := by kernel_rfl
set_option maxRecDepth 1000000 in
theorem gE8tttff : clSend.part 6 [] (clA 8) [true, true, true, false, false] (clSend.m.tree callK (clA 8)) = true := by kernel_rfl
set_option maxRecDepth 1000000 in
theorem gE8ttftt : clSend.part 6 [] (clA 8) [true, true, false, true, true] (clSend.m.tree callK (clA 8)) = true := by kernel_rfl
set_option maxRecDepth 1000000 in
theorem gE8ttftf : clSend.part 6 [] (clA 8) [true, true, false, true, false] (clSend.m.tree callK (clA 8)) = true := by kernel_rfl
set_option maxRecDepth 1000000 in
theorem gE8ttfft : clSend.part 6 [] (clA 8) [true, true, false, false, true] (clSend.m.tree callK (clA 8)) = true := by kernel_rfl
set_option maxRecDepth 1000000 in
theorem gE8ttfff : clSend.part 6 [] (clA 8) [true, true, false, false, false] (clSend.m.tree callK (clA 8)) = true := by kernel_rfl
end Go.Proofs.YtfcpmapfhgibpaaDoor
