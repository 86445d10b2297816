/- The law ForeignNeeds of layer 35: its rounds, 38 messages and more. -/
import Derived.Test.YtbjficjcgpgcbaaDoorForeignNeedsH
namespace Go.Proofs.YtbjficjcgpgcbaaDoor
open Go Go.RowKit SX Frm Frn
set_option maxRecDepth 1000000 in
theorem nee_r38 (g : Nat → Value) : neeB 38 1 g = true := by kernel_rfl
set_option maxRecDepth 1000000 in
theorem nee_r39 (g : Nat → Value) : neeB 39 1 g = true := by kernel_rfl
set_option maxRecDepth 1000000 in
theorem nee_r40 (g : Nat → Value) : neeB 40 1 g = true := by kernel_rfl
end Go.Proofs.YtbjficjcgpgcbaaDoor
