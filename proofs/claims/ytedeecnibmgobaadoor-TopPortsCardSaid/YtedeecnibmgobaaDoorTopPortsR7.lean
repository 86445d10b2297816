/- The law TopPorts: its rounds. -/
import Derived.Test.YtedeecnibmgobaaDoorTopPortsH
namespace Go.Proofs.YtedeecnibmgobaaDoor
open Go Go.RowKit SX
set_option linter.unusedVariables false
set_option maxRecDepth 1000000 in
theorem top_enter6_6 : topEnter 6 6 = true := by kernel_rfl
set_option maxRecDepth 1000000 in
theorem top_rounds6_6 (g : Nat → Value) : topRounds 6 6 g = true := by kernel_rfl
set_option maxRecDepth 1000000 in
theorem top_enter7_0 : topEnter 7 0 = true := by kernel_rfl
set_option maxRecDepth 1000000 in
theorem top_rounds7_0 (g : Nat → Value) : topRounds 7 0 g = true := by kernel_rfl
set_option maxRecDepth 1000000 in
theorem top_enter7_1 : topEnter 7 1 = true := by kernel_rfl
set_option maxRecDepth 1000000 in
theorem top_rounds7_1 (g : Nat → Value) : topRounds 7 1 g = true := by kernel_rfl
end Go.Proofs.YtedeecnibmgobaaDoor
