/- The law ForeignNeeds of layer 35: its rounds, 0 messages and more. -/
import Derived.Test.YtbjficjcgpgcbaaDoorForeignNeedsH
namespace Go.Proofs.YtbjficjcgpgcbaaDoor
open Go Go.RowKit SX Frm Frn
set_option maxRecDepth 1000000 in
theorem nee_r0 (g : Nat → Value) : neeB 0 1 g = true := by kernel_rfl
set_option maxRecDepth 1000000 in
theorem nee_r1 (g : Nat → Value) : neeB 1 1 g = true := by kernel_rfl
set_option maxRecDepth 1000000 in
theorem nee_r2 (g : Nat → Value) : neeB 2 1 g = true := by kernel_rfl
set_option maxRecDepth 1000000 in
theorem nee_r3 (g : Nat → Value) : neeB 3 1 g = true := by kernel_rfl
set_option maxRecDepth 1000000 in
theorem nee_r4 (g : Nat → Value) : neeB 4 1 g = true := by kernel_rfl
set_option maxRecDepth 1000000 in
theorem nee_r5 (g : Nat → Value) : neeB 5 1 g = true := by kernel_rfl
set_option maxRecDepth 1000000 in
theorem nee_r6 (g : Nat → Value) : neeB 6 1 g = true := by kernel_rfl
set_option maxRecDepth 1000000 in
theorem nee_r7 (g : Nat → Value) : neeB 7 1 g = true := by kernel_rfl
end Go.Proofs.YtbjficjcgpgcbaaDoor
