/- Kernel checks of Send, seven ports. -/
import Derived.Test.YtfcpmapfhgibpaaDoorWu
namespace Go.Proofs.YtfcpmapfhgibpaaDoor
open Go Go.RowKit SX Frm Frn
set_option maxRecDepth 1000000 in
theorem gE7ttt : clSend.part 6 [] (clA 7) [true, true, true] (clSend.m.tree callK (clA 7)) = true := by kernel_rfl
set_option maxRecDepth 1000000 in
theorem gE7ttf : clSend.part 6 [] (clA 7) [true, true, false] (clSend.m.tree callK (clA 7)) = true := by kernel_rfl
set_option maxRecDepth 1000000 in
theorem gE7tft : clSend.part 6 [] (clA 7) [true, false, true] (clSend.m.tree callK (clA 7)) = true := by kernel_rfl
set_option maxRecDepth 1000000 in
theorem gE7tff : clSend.part 6 [] (clA 7) [true, false, false] (clSend.m.tree callK (clA 7)) = true := by kernel_rfl
end Go.Proofs.YtfcpmapfhgibpaaDoor
namespace Go.Proofs.YtfcpmapfhgibpaaDoor
open Go Go.RowKit SX Frm Frn
set_option maxRecDepth 1000000 in
theorem gE7ftt : clSend.part 6 [] (clA 7) [false, true, true] (clSend.m.tree callK (clA 7)) = true := by kernel_rfl
set_option maxRecDepth 1000000 in
theorem gE7ftf : clSend.part 6 [] (clA 7) [false, true, false] (clSend.m.tree callK (clA 7)) = true := by kernel_rfl
set_option maxRecDepth 1000000 in
theorem gE7fft : clSend.part 6 [] (clA 7) [false, false, true] (clSend.m.tree callK (clA 7)) = true := by kernel_rfl
set_option maxRecDepth 1000000 in
theorem gE7fff : clSend.part 6 [] (clA 7) [false, false, false] (clSend.m.tree callK (clA 7)) = true := by kernel_rfl
end Go.Proofs.YtfcpmapfhgibpaaDoor
namespace Go.Proofs.YtfcpmapfhgibpaaDoor
open Go Go.RowKit SX Frm Frn
theorem gE7 : clSend.good 6 [] (clA 7) (clSend.m.tree callK (clA 7)) = true := MethS.part_all 3 _ fun _ hl => bools3 (p := fun l => clSend.part 6 [] (clA 7) l (clSend.m.tree callK (clA 7)) = true) (fun a b c => match a, b, c with
  | true, true, true => gE7ttt
  | true, true, false => gE7ttf
  | true, false, true => gE7tft
  | true, false, false => gE7tff
  | false, true, true => gE7ftt
  | false, true, false => gE7ftf
  | false, false, true => gE7fft
  | false, false, false => gE7fff) hl
end Go.Proofs.YtfcpmapfhgibpaaDoor
