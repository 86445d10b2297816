/- The law ForeignBounds of layer 35: its rounds, 1 qualified. -/
import Derived.Test.YtbjficjcgpgcbaaDoorForeignBoundsH
namespace Go.Proofs.YtbjficjcgpgcbaaDoor
open Go Go.RowKit SX Frm Frn
set_option maxRecDepth 1000000 in
theorem bou_r2_1 (g : Nat → Value) : bouB2 1 g = true := by kernel_rfl
set_option maxRecDepth 1000000 in
theorem bou_r3_1 (g : Nat → Value) : bouB3 1 g = true := by kernel_rfl
end Go.Proofs.YtbjficjcgpgcbaaDoor
