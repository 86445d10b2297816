/- The law ForeignNeeds of layer 35: its rounds, 13 messages and more. -/
import Derived.Test.YtbjficjcgpgcbaaDoorForeignNeedsH
namespace Go.Proofs.YtbjficjcgpgcbaaDoor
open Go Go.RowKit SX Frm Frn
set_option maxRecDepth 1000000 in
theorem nee_r13 (g : Nat → Value) : neeB 13 1 g = true := by kernel_rfl
set_option maxRecDepth 1000000 in
theorem nee_r14 (g : Nat → Value) : neeB 14 1 g = true := by kernel_rfl
set_option maxRecDepth 1000000 in
theorem nee_r15 (g : Nat → Value) : neeB 15 1 g = true := by kernel_rfl
set_option maxRecDepth 1000000 in
theorem nee_r16 (g : Nat → Value) : neeB 16 1 g = true := by kernel_rfl
set_option maxRecDepth 1000000 in
theorem nee_r17 (g : Nat → Value) : neeB 17 1 g = true := by kernel_rfl
end Go.Proofs.YtbjficjcgpgcbaaDoor
