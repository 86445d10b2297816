/- The law TopPorts: its rounds. -/
import Derived.Test.YtedeecnibmgobaaDoorTopPortsH
namespace Go.Proofs.YtedeecnibmgobaaDoor
open Go Go.RowKit SX
set_option linter.unusedVariables false
set_option maxRecDepth 1000000 in
theorem top_enter5_3 : topEnter 5 3 = true := by kernel_rfl
set_option maxRecDepth 1000000 in
theorem top_rounds5_3 (g : Nat → Value) : topRounds 5 3 g = true := by kernel_rfl
set_option maxRecDepth 1000000 in
theorem top_enter5_4 : topEnter 5 4 = true := by kernel_rfl
set_option maxRecDepth 1000000 in
theorem top_rounds5_4 (g : Nat → Value) : topRounds 5 4 g = true := by kernel_rfl
set_option maxRecDepth 1000000 in
theorem top_enter5_5 : topEnter 5 5 = true := by kernel_rfl
set_option maxRecDepth 1000000 in
theorem top_rounds5_5 (g : Nat → Value) : topRounds 5 5 g = true := by kernel_rfl
end Go.Proofs.YtedeecnibmgobaaDoor
