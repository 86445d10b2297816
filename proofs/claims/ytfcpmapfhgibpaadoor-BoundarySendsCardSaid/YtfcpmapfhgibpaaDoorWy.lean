/- Kernel checks of Send, eight ports, the last part. -/
import Derived.Test.YtfcpmapfhgibpaaDoorWu
import Derived.Test.YtfcpmapfhgibpaaDoorWx7
import Derived.Test.YtfcpmapfhgibpaaDoorWx8
import Derived.Test.YtfcpmapfhgibpaaDoorWx9
namespace Go.Proofs.YtfcpmapfhgibpaaDoor
open Go Go.RowKit SX Frm Frn
set_option maxRecDepth 1000000 in
theorem gE8ffttt : clSend.part 6 [] (clA 8) [false, false, true, true, true] (clSend.m.tree callK (clA 8)) = true := by kernel_rfl
set_option maxRecDepth 1000000 in
theorem gE8ffttf : clSend.part 6 [] (clA 8) [false, false, true, true, false] (clSend.m.tree callK (clA 8)) = true := by kernel_rfl
set_option maxRecDepth 1000000 in
theorem gE8fftft : clSend.part 6 [] (clA 8) [false, false, true, false, true] (clSend.m.tree callK (clA 8)) = true := by kernel_rfl
set_option maxRecDepth 1000000 in
theorem gE8fftff : clSend.part 6 [] (clA 8) [false, false, true, false, false] (clSend.m.tree callK (clA 8)) = true := by kernel_rfl
set_option maxRecDepth 1000000 in
theorem gE8ffftt : clSend.part 6 [] (clA 8) [false, false, false, true, true] (clSend.m.tree callK (clA 8)) = true := by kernel_rfl
set_option maxRecDepth 1000000 in
theorem gE8ffftf : clSend.part 6 [] (clA 8) [false, false, false, true, false] (clSend.m.tree callK (clA 8)) = true := by kernel_rfl
set_option maxRecDepth 1000000 in
theorem gE8fffft : clSend.part 6 [] (clA 8) [false, false, false, false, true] (clSend.m.tree callK (clA 8)) = true := by kernel_rfl
set_option maxRecDepth 1000000 in
theorem gE8fffff : clSend.part 6 [] (clA 8) [false, false, false, false, false] (clSend.m.tree callK (clA 8)) = true := by kernel_rfl
end Go.Proofs.YtfcpmapfhgibpaaDoor
namespace Go.Proofs.YtfcpmapfhgibpaaDoor
open Go Go.RowKit SX Frm Frn
theorem bools5 {p : List Bool → Prop} (h : ∀ a b c d e : Bool, p [a, b, c, d, e]) {l : List Bool} (hl : l.length = 5) : p l := by
  match l, hl with
  | [a, b, c, d, e], _ => exact h a b c d e
theorem gE8 : clSend.good 6 [] (clA 8) (clSend.m.tree callK (clA 8)) = true := MethS.part_all 5 _ fun _ hl => bools5 (p := fun l => clSend.part 6 [] (clA 8) l (clSend.m.tree callK (clA 8)) = true) (fun a b c d e => match a, b, c, d, e with
  | true, true, true, true, true => gE8ttttt
  | true, true, true, true, false => gE8ttttf
  | true, true, true, false, true => gE8tttft
  | true, true, true, false, false => gE8tttff
  | true, true, false, true, true => gE8ttftt
  | true, true, false, true, false => gE8ttftf
  | true, true, false, false, true => gE8ttfft
  | true, true, false, false, false => gE8ttfff
  | true, false, true, true, true => gE8tfttt
  | true, false, true, true, false => gE8tfttf
  | true, false, true, false, true => gE8tftft
  | true, false, true, false, false => gE8tftff
  | true, false, false, true, true => gE8tfftt
  | true, false, false, true, false => gE8tfftf
  | true, false, false, false, true => gE8tffft
  | true, false, false, false, false => gE8tffff
  | false, true, true, true, true => gE8ftttt
  | false, true, true, true, false => gE8ftttf
  | false, true, true, false, true => gE8fttft
  | false, true, true, false, false => gE8fttff
  | false, true, false, true, true => gE8ftftt
  | false, true, false, true, false => gE8ftftf
  | false, true, false, false, true => gE8ftfft
  | false, true, false, false, false => gE8ftfff
  | false, false, true, true, true => gE8ffttt
  | false, false, true, true, false => gE8ffttf
  | false, false, true, false, true => gE8fftft
  | false, false, true, false, false => gE8fftff
  | false, false, false, true, true => gE8ffftt
  | false, false, false, true, false => gE8ffftf
  | false, false, false, false, true => gE8fffft
  | false, false, false, false, false => gE8fffff) hl
end Go.Proofs.YtfcpmapfhgibpaaDoor
