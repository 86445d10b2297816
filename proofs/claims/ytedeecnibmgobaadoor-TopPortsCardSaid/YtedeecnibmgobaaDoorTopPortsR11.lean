/- The law TopPorts: its rounds. -/
import Derived.Test.YtedeecnibmgobaaDoorTopPortsH
namespace Go.Proofs.YtedeecnibmgobaaDoor
open Go Go.RowKit SX
set_option linter.unusedVariables false
set_option maxRecDepth 1000000 in
theorem top_enter8_2 : topEnter 8 2 = true := by kernel_rfl
set_option maxRecDepth 1000000 in
theorem top_rounds8_2 (g : Nat → Value) : topRounds 8 2 g = true := by kernel_rfl
set_option maxRecDepth 1000000 in
theorem top_enter8_3 : topEnter 8 3 = true := by kernel_rfl
set_option maxRecDepth 1000000 in
theorem top_rounds8_3 (g : Nat → Value) : topRounds 8 3 g = true := by kernel_rfl
end Go.Proofs.YtedeecnibmgobaaDoor
