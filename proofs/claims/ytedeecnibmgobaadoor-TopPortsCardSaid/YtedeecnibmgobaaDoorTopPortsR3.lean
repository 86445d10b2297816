/- The law TopPorts: its rounds. -/
import Derived.Test.YtedeecnibmgobaaDoorTopPortsH
namespace Go.Proofs.YtedeecnibmgobaaDoor
open Go Go.RowKit SX
set_option linter.unusedVariables false
set_option maxRecDepth 1000000 in
theorem top_enter5_0 : topEnter 5 0 = true := by kernel_rfl
set_option maxRecDepth 1000000 in
theorem top_rounds5_0 (g : Nat → Value) : topRounds 5 0 g = true := by kernel_rfl
set_option maxRecDepth 1000000 in
theorem top_enter5_1 : topEnter 5 1 = true := by kernel_rfl
set_option maxRecDepth 1000000 in
theorem top_rounds5_1 (g : Nat → Value) : topRounds 5 1 g = true := by kernel_rfl
set_option maxRecDepth 1000000 in
theorem top_enter5_2 : topEnter 5 2 = true := by kernel_rfl
set_option maxRecDepth 1000000 in
theorem top_rounds5_2 (g : Nat → Value) : topRounds 5 2 g = true := by kernel_rfl
end Go.Proofs.YtedeecnibmgobaaDoor
