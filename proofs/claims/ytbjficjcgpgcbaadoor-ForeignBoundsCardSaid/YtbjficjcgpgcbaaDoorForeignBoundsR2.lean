/- The law ForeignBounds of layer 35: its rounds, 2 qualified. -/
import Derived.Test.YtbjficjcgpgcbaaDoorForeignBoundsH
namespace Go.Proofs.YtbjficjcgpgcbaaDoor
open Go Go.RowKit SX Frm Frn
set_option maxRecDepth 1000000 in
theorem bou_r2_2 (g : Nat → Value) : bouB2 2 g = true := by kernel_rfl
set_option maxRecDepth 1000000 in
theorem bou_r3_2 (g : Nat → Value) : bouB3 2 g = true := by kernel_rfl
end Go.Proofs.YtbjficjcgpgcbaaDoor
