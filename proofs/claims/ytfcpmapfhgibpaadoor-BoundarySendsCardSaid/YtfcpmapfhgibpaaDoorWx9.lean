/- Kernel checks of Send, eight ports, the third part. -/
import Derived.Test.YtfcpmapfhgibpaaDoorWu
namespace Go.Proofs.YtfcpmapfhgibpaaDoor
open Go Go.RowKit SX Frm Frn
set_option maxRecDepth 1000000 in
theorem gE8ftttt : clSend.part 6 [] (clA 8) [false, true, true, true, true] (clSend.m.tree callK (clA 8)) = true := by kernel_rfl
set_option maxRecDepth 1000000 in
theorem gE8ftttf : clSend.part 6 [] (clA 8) [false, true, true, true, false] (clSend.m.tree callK (clA 8)) = true := by kernel_rfl
set_option maxRecDepth 1000000 in
theorem gE8fttft : clSend.part 6 [] (clA 8) [false, true, true, false, true] (clSend.m.tree callK (clA 8)) = true := by kernel_rfl
set_option maxRecDepth 1000000 in
theorem gE8fttff : clSend.part 6 [] (clA 8) [false, true, true, false, false] (clSend.m.tree callK (clA 8)) = true := by kernel_rfl
set_option maxRecDepth 1000000 in
theorem gE8ftftt : clSend.part 6 [] (clA 8) [false, true, false, true, true] (clSend.m.tree callK (clA 8)) = true := by kernel_rfl
set_option maxRecDepth 1000000 in
theorem gE8ftftf : clSend.part 6 [] (clA 8) [false, true, false, true, false] (clSend.m.tree callK (clA 8)) = true := by kernel_rfl
set_option maxRecDepth 1000000 in
theorem gE8ftfft : clSend.part 6 [] (clA 8) [false, true, false, false, true] (clSend.m.tree callK (clA 8)) = true := by kernel_rfl
set_option maxRecDepth 1000000 in
theorem gE8ftfff : clSend.part 6 [] (clA 8) [false, true, false, false, false] (clSend.m.tree callK (clA 8)) = true := by kernel_rfl
end Go.Proofs.YtfcpmapfhgibpaaDoor
