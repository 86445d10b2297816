/- The law ForeignNeeds of layer 35: its rounds, 18 messages and more. -/
import Derived.Test.YtbjficjcgpgcbaaDoorForeignNeedsH
namespace Go.Proofs.YtbjficjcgpgcbaaDoor
open Go Go.RowKit SX Frm Frn
set_option maxRecDepth 1000000 in
theorem nee_r18 (g : Nat → Value) : neeB 18 1 g = true := by kernel_rfl
set_option maxRecDepth 1000000 in
theorem nee_r19 (g : Nat → Value) : neeB 19 1 g = true := by kernel_rfl
set_option maxRecDepth 1000000 in
theorem nee_r20 (g : Nat → Value) : neeB 20 1 g = true := by kernel_rfl
set_option maxRecDepth 1000000 in
theorem nee_r21 (g : Nat → Value) : neeB 21 1 g = true := by kernel_rfl
set_option maxRecDepth 1000000 in
theorem nee_r22 (g : Nat → Value) : neeB 22 1 g = true := by kernel_rfl
end Go.Proofs.YtbjficjcgpgcbaaDoor
