/- Layer 41: what Send returns, 8 ports, part 0. -/
import Derived.Test.YtfcpmapfhgibpaaDoorSn
namespace Go.Proofs.YtfcpmapfhgibpaaDoor
open Go Go.RowKit SX Frm Frn
set_option maxRecDepth 1000000 in
theorem sk8ttttt : partC (sndChk 8) [true, true, true, true, true] [] (clSend.m.tree callK (clA 8)) = true := by kernel_rfl
set_option maxRecDepth 1000000 in
theorem sk8ttttf : partC (sndChk 8) [true, true, true, true, false] [] (clSend.m.tree callK (clA 8)) = true := by kernel_rfl
set_option maxRecDepth 1000000 in
theorem sk8tttft : partC (sndChk 8) [true, true, true, false, true] [] (clSend.m.tree callK (clA 8)) = true := by kernel_rfl
set_option maxRecDepth 1000000 in
theorem sk8tttff : partC (sndChk 8) [true, true, true, false, false] [] (clSend.m.tree callK (clA 8)) = true := by kernel_rfl
set_option maxRecDepth 1000000 in
theorem sk8ttftt : partC (sndChk 8) [true, true, false, true, true] [] (clSend.m.tree callK (clA 8)) = true := by kernel_rfl
set_option maxRecDepth 1000000 in
theorem sk8ttftf : partC (sndChk 8) [true, true, false, true, false] [] (clSend.m.tree callK (clA 8)) = true := by kernel_rfl
set_option maxRecDepth 1000000 in
theorem sk8ttfft : partC (sndChk 8) [true, true, false, false, true] [] (clSend.m.tree callK (clA 8)) = true := by kernel_rfl
set_option maxRecDepth 1000000 in
theorem sk8ttfff : partC (sndChk 8) [true, true, false, false, false] [] (clSend.m.tree callK (clA 8)) = true := by kernel_rfl
set_option maxRecDepth 1000000 in
theorem sk8tfttt : partC (sndChk 8) [true, false, true, true, true] [] (clSend.m.tree callK (clA 8)) = true := by kernel_rfl
set_option maxRecDepth 1000000 in
theorem sk8tfttf : partC (sndChk 8) [true, false, true, true, false] [] (clSend.m.tree callK (clA 8)) = true := by kernel_rfl
set_option maxRecDepth 1000000 in
theorem sk8tftft : partC (sndChk 8) [true, false, true, false, true] [] (clSend.m.tree callK (clA 8)) = true := by kernel_rfl
set_option maxRecDepth 1000000 in
theorem sk8tftff : partC (sndChk 8) [true, false, true, false, false] [] (clSend.m.tree callK (clA 8)) = true := by kernel_rfl
set_option maxRecDepth 1000000 in
theorem sk8tfftt : partC (sndChk 8) [true, false, false, true, true] [] (clSend.m.tree callK (clA 8)) = true := by kernel_rfl
set_option maxRecDepth 1000000 in
theorem sk8tfftf : partC (sndChk 8) [true, false, false, true, false] [] (clSend.m.tree callK (clA 8)) = true := by kernel_rfl
set_option maxRecDepth 1000000 in
theorem sk8tffft : partC (sndChk 8) [true, false, false, false, true] [] (clSend.m.tree callK (clA 8)) = true := by kernel_rfl
set_option maxRecDepth 1000000 in
theorem sk8tffff : partC (sndChk 8) [true, false, false, false, false] [] (clSend.m.tree callK (clA 8)) = true := by kernel_rfl
end Go.Proofs.YtfcpmapfhgibpaaDoor
