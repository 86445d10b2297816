/- The law ForeignNeeds of layer 35: its rounds, 32 messages and more. -/
import Derived.Test.YtbjficjcgpgcbaaDoorForeignNeedsH
namespace Go.Proofs.YtbjficjcgpgcbaaDoor
open Go Go.RowKit SX Frm Frn
set_option maxRecDepth 1000000 in
theorem nee_r32 (g : Nat → Value) : neeB 32 1 g = true := by kernel_rfl
set_option maxRecDepth 1000000 in
theorem nee_r33 (g : Nat → Value) : neeB 33 1 g = true := by kernel_rfl
set_option maxRecDepth 1000000 in
theorem nee_r34 (g : Nat → Value) : neeB 34 1 g = true := by kernel_rfl
end Go.Proofs.YtbjficjcgpgcbaaDoor
