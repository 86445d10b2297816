/- The law ForeignNeeds of layer 35: its rounds, 23 messages and more. -/
import Derived.Test.YtbjficjcgpgcbaaDoorForeignNeedsH
namespace Go.Proofs.YtbjficjcgpgcbaaDoor
open Go Go.RowKit SX Frm Frn
set_option maxRecDepth 1000000 in
theorem nee_r23 (g : Nat → Value) : neeB 23 1 g = true := by kernel_rfl
set_option maxRecDepth 1000000 in
theorem nee_r24 (g : Nat → Value) : neeB 24 1 g = true := by kernel_rfl
set_option maxRecDepth 1000000 in
theorem nee_r25 (g : Nat → Value) : neeB 25 1 g = true := by kernel_rfl
set_option maxRecDepth 1000000 in
theorem nee_r26 (g : Nat → Value) : neeB 26 1 g = true := by kernel_rfl
set_option maxRecDepth 1000000 in
theorem nee_r27 (g : Nat → Value) : neeB 27 1 g = true := by kernel_rfl
end Go.Proofs.YtbjficjcgpgcbaaDoor
