/- The law TopPorts: its rounds. -/
import Derived.Test.YtedeecnibmgobaaDoorTopPortsH
namespace Go.Proofs.YtedeecnibmgobaaDoor
open Go Go.RowKit SX
set_option linter.unusedVariables false
set_option maxRecDepth 1000000 in
theorem top_enter8_8 : topEnter 8 8 = true := by kernel_rfl
set_option maxRecDepth 1000000 in
theorem top_rounds8_8 (g : Nat → Value) : topRounds 8 8 g = true := by kernel_rfl
end Go.Proofs.YtedeecnibmgobaaDoor
