/- The law ForeignNeeds of layer 35: its rounds, 28 messages and more. -/
import Derived.Test.YtbjficjcgpgcbaaDoorForeignNeedsH
namespace Go.Proofs.YtbjficjcgpgcbaaDoor
open Go Go.RowKit SX Frm Frn
set_option maxRecDepth 1000000 in
theorem nee_r28 (g : Nat → Value) : neeB 28 1 g = true := by kernel_rfl
set_option maxRecDepth 1000000 in
theorem nee_r29 (g : Nat → Value) : neeB 29 1 g = true := by kernel_rfl
set_option maxRecDepth 1000000 in
theorem nee_r30 (g : Nat → Value) : neeB 30 1 g = true := by kernel_rfl
set_option maxRecDepth 1000000 in
theorem nee_r31 (g : Nat → Value) : neeB 31 1 g = true := by kernel_rfl
end Go.Proofs.YtbjficjcgpgcbaaDoor
