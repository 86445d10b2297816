/- The law TopPorts: its rounds. -/
import Derived.Test.YtedeecnibmgobaaDoorTopPortsH
namespace Go.Proofs.YtedeecnibmgobaaDoor
open Go Go.RowKit SX
set_option linter.unusedVariables false
set_option maxRecDepth 1000000 in
theorem top_enter7_2 : topEnter 7 2 = true := by kernel_rfl
set_option maxRecDepth 1000000 in
theorem top_rounds7_2 (g : Nat → Value) : topRounds 7 2 g = true := by kernel_rfl
set_option maxRecDepth 1000000 in
theorem top_enter7_3 : topEnter 7 3 = true := by kernel_rfl
set_option maxRecDepth 1000000 in
theorem top_rounds7_3 (g : Nat → Value) : topRounds 7 3 g = true := by kernel_rfl
set_option maxRecDepth 1000000 in
theorem top_enter7_4 : topEnter 7 4 = true := by kernel_rfl
set_option maxRecDepth 1000000 in
theorem top_rounds7_4 (g : Nat → Value) : topRounds 7 4 g = true := by kernel_rfl
end Go.Proofs.YtedeecnibmgobaaDoor
