/- The law TopPorts: its rounds. -/
import Derived.Test.YtedeecnibmgobaaDoorTopPortsH
namespace Go.Proofs.YtedeecnibmgobaaDoor
open Go Go.RowKit SX
set_option linter.unusedVariables false
set_option maxRecDepth 1000000 in
theorem top_enter3_1 : topEnter 3 1 = true := by kernel_rfl
set_option maxRecDepth 1000000 in
theorem top_rounds3_1 (g : Nat → Value) : topRounds 3 1 g = true := by kernel_rfl
set_option maxRecDepth 1000000 in
theorem top_enter3_2 : topEnter 3 2 = true := by kernel_rfl
set_option maxRecDepth 1000000 in
theorem top_rounds3_2 (g : Nat → Value) : topRounds 3 2 g = true := by kernel_rfl
set_option maxRecDepth 1000000 in
theorem top_enter3_3 : topEnter 3 3 = true := by kernel_rfl
set_option maxRecDepth 1000000 in
theorem top_rounds3_3 (g : Nat → Value) : topRounds 3 3 g = true := by kernel_rfl
set_option maxRecDepth 1000000 in
theorem top_enter4_0 : topEnter 4 0 = true := by kernel_rfl
set_option maxRecDepth 1000000 in
theorem top_rounds4_0 (g : Nat → Value) : topRounds 4 0 g = true := by kernel_rfl
end Go.Proofs.YtedeecnibmgobaaDoor
