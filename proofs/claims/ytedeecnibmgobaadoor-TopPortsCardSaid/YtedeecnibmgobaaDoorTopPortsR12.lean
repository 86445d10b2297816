/- The law TopPorts: its rounds. -/
import Derived.Test.YtedeecnibmgobaaDoorTopPortsH
namespace Go.Proofs.YtedeecnibmgobaaDoor
open Go Go.RowKit SX
set_option linter.unusedVariables false
set_option maxRecDepth 1000000 in
theorem top_enter8_4 : topEnter 8 4 = true := by kernel_rfl
set_option maxRecDepth 1000000 in
theorem top_rounds8_4 (g : Nat → Value) : topRounds 8 4 g = true := by kernel_rfl
set_option maxRecDepth 1000000 in
theorem top_enter8_5 : topEnter 8 5 = true := by kernel_rfl
set_option maxRecDepth 1000000 in
theorem top_rounds8_5 (g : Nat → Value) : topRounds 8 5 g = true := by kernel_rfl
end Go.Proofs.YtedeecnibmgobaaDoor
