/- Layer 41: what Send returns, 6 ports, part 0. -/
import Derived.Test.YtfcpmapfhgibpaaDoorSn
namespace Go.Proofs.YtfcpmapfhgibpaaDoor
open Go Go.RowKit SX Frm Frn
set_option maxRecDepth 1000000 in
theorem sk6tt : partC (sndChk 6) [true, true] [] (clSend.m.tree callK (clA 6)) = true := by kernel_rfl
set_option maxRecDepth 1000000 in
theorem sk6tf : partC (sndChk 6) [true, false] [] (clSend.m.tree callK (clA 6)) = true := by kernel_rfl
set_option maxRecDepth 1000000 in
theorem sk6ft : partC (sndChk 6) [false, true] [] (clSend.m.tree callK (clA 6)) = true := by kernel_rfl
set_option maxRecDepth 1000000 in
theorem sk6ff : partC (sndChk 6) [false, false] [] (clSend.m.tree callK (clA 6)) = true := by kernel_rfl
end Go.Proofs.YtfcpmapfhgibpaaDoor
