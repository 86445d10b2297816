/- Layer 41: what Send returns, one to five ports. -/
import Derived.Test.YtfcpmapfhgibpaaDoorSn
namespace Go.Proofs.YtfcpmapfhgibpaaDoor
open Go Go.RowKit SX Frm Frn
set_option maxRecDepth 1000000 in
theorem sk1 : allC (sndChk 1) [] (clSend.m.tree callK (clA 1)) = true := by kernel_rfl
set_option maxRecDepth 1000000 in
theorem sk2 : allC (sndChk 2) [] (clSend.m.tree callK (clA 2)) = true := by kernel_rfl
set_option maxRecDepth 1000000 in
theorem sk3 : allC (sndChk 3) [] (clSend.m.tree callK (clA 3)) = true := by kernel_rfl
set_option maxRecDepth 1000000 in
theorem sk4 : allC (sndChk 4) [] (clSend.m.tree callK (clA 4)) = true := by kernel_rfl
set_option maxRecDepth 1000000 in
theorem sk5 : allC (sndChk 5) [] (clSend.m.tree callK (clA 5)) = true := by kernel_rfl
end Go.Proofs.YtfcpmapfhgibpaaDoor
