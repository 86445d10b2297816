/- Kernel checks of Send, one to six ports. -/
import Derived.Test.YtfcpmapfhgibpaaDoorWu
namespace Go.Proofs.YtfcpmapfhgibpaaDoor
open Go Go.RowKit SX Frm Frn
set_option maxRecDepth 1000000 in
theorem gE1 : clSend.good 6 [] (clA 1) (clSend.m.tree callK (clA 1)) = true := by kernel_rfl
set_option maxRecDepth 1000000 in
theorem gE2 : clSend.good 6 [] (clA 2) (clSend.m.tree callK (clA 2)) = true := by kernel_rfl
set_option maxRecDepth 1000000 in
theorem gE3 : clSend.good 6 [] (clA 3) (clSend.m.tree callK (clA 3)) = true := by kernel_rfl
set_option maxRecDepth 1000000 in
theorem gE4 : clSend.good 6 [] (clA 4) (clSend.m.tree callK (clA 4)) = true := by kernel_rfl
set_option maxRecDepth 1000000 in
theorem gE5 : clSend.good 6 [] (clA 5) (clSend.m.tree callK (clA 5)) = true := by kernel_rfl
end Go.Proofs.YtfcpmapfhgibpaaDoor
namespace Go.Proofs.YtfcpmapfhgibpaaDoor
open Go Go.RowKit SX Frm Frn
set_option maxRecDepth 1000000 in
theorem gE6tt : clSend.part 6 [] (clA 6) [true, true] (clSend.m.tree callK (clA 6)) = true := by kernel_rfl
set_option maxRecDepth 1000000 in
theorem gE6tf : clSend.part 6 [] (clA 6) [true, false] (clSend.m.tree callK (clA 6)) = true := by kernel_rfl
set_option maxRecDepth 1000000 in
theorem gE6ft : clSend.part 6 [] (clA 6) [false, true] (clSend.m.tree callK (clA 6)) = true := by kernel_rfl
set_option maxRecDepth 1000000 in
theorem gE6ff : clSend.part 6 [] (clA 6) [false, false] (clSend.m.tree callK (clA 6)) = true := by kernel_rfl
end Go.Proofs.YtfcpmapfhgibpaaDoor
namespace Go.Proofs.YtfcpmapfhgibpaaDoor
open Go Go.RowKit SX Frm Frn
theorem bools2 {p : List Bool → Prop} (h : ∀ a b : Bool, p [a, b]) {l : List Bool} (hl : l.length = 2) : p l := by
  match l, hl with
  | [a, b], _ => exact h a b
theorem gE6 : clSend.good 6 [] (clA 6) (clSend.m.tree callK (clA 6)) = true := MethS.part_all 2 _ fun _ hl => bools2 (p := fun l => clSend.part 6 [] (clA 6) l (clSend.m.tree callK (clA 6)) = true) (fun a b => match a, b with
  | true, true => gE6tt
  | true, false => gE6tf
  | false, true => gE6ft
  | false, false => gE6ff) hl
end Go.Proofs.YtfcpmapfhgibpaaDoor
