/- The law ForeignBounds of layer 35: its rounds, 5 qualified (the inner loop). -/
import Derived.Test.YtbjficjcgpgcbaaDoorForeignBoundsH
namespace Go.Proofs.YtbjficjcgpgcbaaDoor
open Go Go.RowKit SX Frm Frn
set_option maxRecDepth 1000000 in
theorem bou_r3_5_3 (g : Nat → Value) : ((List.range 4).all fun j => (List.range 2).all fun f => bouOk bouC3 (bouT3 5 3 j f) g) = true := by kernel_rfl
end Go.Proofs.YtbjficjcgpgcbaaDoor
