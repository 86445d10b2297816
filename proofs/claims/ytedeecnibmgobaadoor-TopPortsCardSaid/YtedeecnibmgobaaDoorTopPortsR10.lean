/- The law TopPorts: its rounds. -/
import Derived.Test.YtedeecnibmgobaaDoorTopPortsH
namespace Go.Proofs.YtedeecnibmgobaaDoor
open Go Go.RowKit SX
set_option linter.unusedVariables false
set_option maxRecDepth 1000000 in
theorem top_enter8_0 : topEnter 8 0 = true := by kernel_rfl
set_option maxRecDepth 1000000 in
theorem top_rounds8_0 (g : Nat → Value) : topRounds 8 0 g = true := by kernel_rfl
set_option maxRecDepth 1000000 in
theorem top_enter8_1 : topEnter 8 1 = true := by kernel_rfl
set_option maxRecDepth 1000000 in
theorem top_rounds8_1 (g : Nat → Value) : topRounds 8 1 g = true := by kernel_rfl
end Go.Proofs.YtedeecnibmgobaaDoor
