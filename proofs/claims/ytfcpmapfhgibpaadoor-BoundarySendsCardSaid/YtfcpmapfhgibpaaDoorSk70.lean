/- Layer 41: what Send returns, 7 ports, part 0. -/
import Derived.Test.YtfcpmapfhgibpaaDoorSn
namespace Go.Proofs.YtfcpmapfhgibpaaDoor
open Go Go.RowKit SX Frm Frn
set_option maxRecDepth 1000000 in
theorem sk7ttt : partC (sndChk 7) [true, true, true] [] (clSend.m.tree callK (clA 7)) = true := by kernel_rfl
set_option maxRecDepth 1000000 in
theorem sk7ttf : partC (sndChk 7) [true, true, false] [] (clSend.m.tree callK (clA 7)) = true := by kernel_rfl
set_option maxRecDepth 1000000 in
theorem sk7tft : partC (sndChk 7) [true, false, true] [] (clSend.m.tree callK (clA 7)) = true := by kernel_rfl
set_option maxRecDepth 1000000 in
theorem sk7tff : partC (sndChk 7) [true, false, false] [] (clSend.m.tree callK (clA 7)) = true := by kernel_rfl
set_option maxRecDepth 1000000 in
theorem sk7ftt : partC (sndChk 7) [false, true, true] [] (clSend.m.tree callK (clA 7)) = true := by kernel_rfl
set_option maxRecDepth 1000000 in
theorem sk7ftf : partC (sndChk 7) [false, true, false] [] (clSend.m.tree callK (clA 7)) = true := by kernel_rfl
set_option maxRecDepth 1000000 in
theorem sk7fft : partC (sndChk 7) [false, false, true] [] (clSend.m.tree callK (clA 7)) = true := by kernel_rfl
set_option maxRecDepth 1000000 in
theorem sk7fff : partC (sndChk 7) [false, false, false] [] (clSend.m.tree callK (clA 7)) = true := by kernel_rfl
end Go.Proofs.YtfcpmapfhgibpaaDoor
