/- The law ForeignNeeds of layer 35: its rounds, 35 messages and more. -/
import Derived.Test.YtbjficjcgpgcbaaDoorForeignNeedsH
namespace Go.Proofs.YtbjficjcgpgcbaaDoor
open Go Go.RowKit SX Frm Frn
set_option maxRecDepth 1000000 in
theorem nee_r35 (g : Nat → Value) : neeB 35 1 g = true := by kernel_rfl
set_option maxRecDepth 1000000 in
theorem nee_r36 (g : Nat → Value) : neeB 36 1 g = true := by kernel_rfl
set_option maxRecDepth 1000000 in
theorem nee_r37 (g : Nat → Value) : neeB 37 1 g = true := by kernel_rfl
end Go.Proofs.YtbjficjcgpgcbaaDoor
