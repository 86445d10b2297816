/- The law TopPorts: its rounds. -/
import Derived.Test.YtedeecnibmgobaaDoorTopPortsH
namespace Go.Proofs.YtedeecnibmgobaaDoor
open Go Go.RowKit SX
set_option linter.unusedVariables false
set_option maxRecDepth 1000000 in
theorem top_enter8_6 : topEnter 8 6 = true := by kernel_rfl
set_option maxRecDepth 1000000 in
theorem top_rounds8_6 (g : Nat → Value) : topRounds 8 6 g = true := by kernel_rfl
set_option maxRecDepth 1000000 in
theorem top_enter8_7 : topEnter 8 7 = true := by kernel_rfl
set_option maxRecDepth 1000000 in
theorem top_rounds8_7 (g : Nat → Value) : topRounds 8 7 g = true := by kernel_rfl
end Go.Proofs.YtedeecnibmgobaaDoor
