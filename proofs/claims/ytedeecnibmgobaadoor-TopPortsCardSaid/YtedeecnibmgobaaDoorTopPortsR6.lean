/- The law TopPorts: its rounds. -/
import Derived.Test.YtedeecnibmgobaaDoorTopPortsH
namespace Go.Proofs.YtedeecnibmgobaaDoor
open Go Go.RowKit SX
set_option linter.unusedVariables false
set_option maxRecDepth 1000000 in
theorem top_enter6_3 : topEnter 6 3 = true := by kernel_rfl
set_option maxRecDepth 1000000 in
theorem top_rounds6_3 (g : Nat → Value) : topRounds 6 3 g = true := by kernel_rfl
set_option maxRecDepth 1000000 in
theorem top_enter6_4 : topEnter 6 4 = true := by kernel_rfl
set_option maxRecDepth 1000000 in
theorem top_rounds6_4 (g : Nat → Value) : topRounds 6 4 g = true := by kernel_rfl
set_option maxRecDepth 1000000 in
theorem top_enter6_5 : topEnter 6 5 = true := by kernel_rfl
set_option maxRecDepth 1000000 in
theorem top_rounds6_5 (g : Nat → Value) : topRounds 6 5 g = true := by kernel_rfl
end Go.Proofs.YtedeecnibmgobaaDoor
