/- The law TopPorts: its rounds. -/
import Derived.Test.YtedeecnibmgobaaDoorTopPortsH
namespace Go.Proofs.YtedeecnibmgobaaDoor
open Go Go.RowKit SX
set_option linter.unusedVariables false
set_option maxRecDepth 1000000 in
theorem top_enter6_0 : topEnter 6 0 = true := by kernel_rfl
set_option maxRecDepth 1000000 in
theorem top_rounds6_0 (g : Nat → Value) : topRounds 6 0 g = true := by kernel_rfl
set_option maxRecDepth 1000000 in
theorem top_enter6_1 : topEnter 6 1 = true := by kernel_rfl
set_option maxRecDepth 1000000 in
theorem top_rounds6_1 (g : Nat → Value) : topRounds 6 1 g = true := by kernel_rfl
set_option maxRecDepth 1000000 in
theorem top_enter6_2 : topEnter 6 2 = true := by kernel_rfl
set_option maxRecDepth 1000000 in
theorem top_rounds6_2 (g : Nat → Value) : topRounds 6 2 g = true := by kernel_rfl
end Go.Proofs.YtedeecnibmgobaaDoor
