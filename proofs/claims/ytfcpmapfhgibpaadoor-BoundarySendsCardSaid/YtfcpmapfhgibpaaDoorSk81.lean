/- Layer 41: what Send returns, 8 ports, part 1. -/
import Derived.Test.YtfcpmapfhgibpaaDoorSn
namespace Go.Proofs.YtfcpmapfhgibpaaDoor
open Go Go.RowKit SX Frm Frn
set_option maxRecDepth 1000000 in
theorem sk8ftttt : partC (sndChk 8) [false, true, true, true, true] [] (clSend.m.tree callK (clA 8)) = true := by kernel_rfl
set_option maxRecDepth 1000000 in
theorem sk8ftttf : partC (sndChk 8) [false, true, true, true, false] [] (clSend.m.tree callK (clA 8)) = true := by kernel_rfl
set_option maxRecDepth 1000000 in
theorem sk8fttft : partC (sndChk 8) [false, true, true, false, true] [] (clSend.m.tree callK (clA 8)) = true := by kernel_rfl
set_option maxRecDepth 1000000 in
theorem sk8fttff : partC (sndChk 8) [false, true, true, false, false] [] (clSend.m.tree callK (clA 8)) = true := by kernel_rfl
set_option maxRecDepth 1000000 in
theorem sk8ftftt : partC (sndChk 8) [false, true, false, true, true] [] (clSend.m.tree callK (clA 8)) = true := by kernel_rfl
set_option maxRecDepth 1000000 in
theorem sk8ftftf : partC (sndChk 8) [false, true, false, true, false] [] (clSend.m.tree callK (clA 8)) = true := by kernel_rfl
set_option maxRecDepth 1000000 in
theorem sk8ftfft : partC (sndChk 8) [false, true, false, false, true] [] (clSend.m.tree callK (clA 8)) = true := by kernel_rfl
set_option maxRecDepth 1000000 in
theorem sk8ftfff : partC (sndChk 8) [false, true, false, false, false] [] (clSend.m.tree callK (clA 8)) = true := by kernel_rfl
set_option maxRecDepth 1000000 in
theorem sk8ffttt : partC (sndChk 8) [false, false, true, true, true] [] (clSend.m.tree callK (clA 8)) = true := by kernel_rfl
set_option maxRecDepth 1000000 in
theorem sk8ffttf : partC (sndChk 8) [false, false, true, true, false] [] (clSend.m.tree callK (clA 8)) = true := by kernel_rfl
set_option maxRecDepth 1000000 in
theorem sk8fftft : partC (sndChk 8) [false, false, true, false, true] [] (clSend.m.tree callK (clA 8)) = true := by kernel_rfl
set_option maxRecDepth 1000000 in
theorem sk8fftff : partC (sndChk 8) [false, false, true, false, false] [] (clSend.m.tree callK (clA 8)) = true := by kernel_rfl
set_option maxRecDepth 1000000 in
theorem sk8ffftt : partC (sndChk 8) [false, false, false, true, true] [] (clSend.m.tree callK (clA 8)) = true := by kernel_rfl
set_option maxRecDepth 1000000 in
theorem sk8ffftf : partC (sndChk 8) [false, false, false, true, false] [] (clSend.m.tree callK (clA 8)) = true := by kernel_rfl
set_option maxRecDepth 1000000 in
theorem sk8fffft : partC (sndChk 8) [false, false, false, false, true] [] (clSend.m.tree callK (clA 8)) = true := by kernel_rfl
set_option maxRecDepth 1000000 in
theorem sk8fffff : partC (sndChk 8) [false, false, false, false, false] [] (clSend.m.tree callK (clA 8)) = true := by kernel_rfl
end Go.Proofs.YtfcpmapfhgibpaaDoor
