/- The law TopPorts: its rounds. -/
import Derived.Test.YtedeecnibmgobaaDoorTopPortsH
namespace Go.Proofs.YtedeecnibmgobaaDoor
open Go Go.RowKit SX
set_option linter.unusedVariables false
set_option maxRecDepth 1000000 in
theorem top_enter7_5 : topEnter 7 5 = true := by kernel_rfl
set_option maxRecDepth 1000000 in
theorem top_rounds7_5 (g : Nat → Value) : topRounds 7 5 g = true := by kernel_rfl
set_option maxRecDepth 1000000 in
theorem top_enter7_6 : topEnter 7 6 = true := by kernel_rfl
set_option maxRecDepth 1000000 in
theorem top_rounds7_6 (g : Nat → Value) : topRounds 7 6 g = true := by kernel_rfl
set_option maxRecDepth 1000000 in
theorem top_enter7_7 : topEnter 7 7 = true := by kernel_rfl
set_option maxRecDepth 1000000 in
theorem top_rounds7_7 (g : Nat → Value) : topRounds 7 7 g = true := by kernel_rfl
end Go.Proofs.YtedeecnibmgobaaDoor
