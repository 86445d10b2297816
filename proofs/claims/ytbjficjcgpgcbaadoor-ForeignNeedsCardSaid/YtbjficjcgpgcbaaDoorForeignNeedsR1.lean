/- The law ForeignNeeds of layer 35: its rounds, 8 messages and more. -/
import Derived.Test.YtbjficjcgpgcbaaDoorForeignNeedsH
namespace Go.Proofs.YtbjficjcgpgcbaaDoor
open Go Go.RowKit SX Frm Frn
set_option maxRecDepth 1000000 in
theorem nee_r8 (g : Nat → Value) : neeB 8 1 g = true := by kernel_rfl
set_option maxRecDepth 1000000 in
theorem nee_r9 (g : Nat → Value) : neeB 9 1 g = true := by kernel_rfl
set_option maxRecDepth 1000000 in
theorem nee_r10 (g : Nat → Value) : neeB 10 1 g = true := by kernel_rfl
set_option maxRecDepth 1000000 in
theorem nee_r11 (g : Nat → Value) : neeB 11 1 g = true := by kernel_rfl
set_option maxRecDepth 1000000 in
theorem nee_r12 (g : Nat → Value) : neeB 12 1 g = true := by kernel_rfl
end Go.Proofs.YtbjficjcgpgcbaaDoor
