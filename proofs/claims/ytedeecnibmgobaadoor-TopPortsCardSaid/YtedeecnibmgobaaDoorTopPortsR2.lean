/- The law TopPorts: its rounds. -/
import Derived.Test.YtedeecnibmgobaaDoorTopPortsH
namespace Go.Proofs.YtedeecnibmgobaaDoor
open Go Go.RowKit SX
set_option linter.unusedVariables false
set_option maxRecDepth 1000000 in
theorem top_enter4_1 : topEnter 4 1 = true := by kernel_rfl
set_option maxRecDepth 1000000 in
theorem top_rounds4_1 (g : Nat → Value) : topRounds 4 1 g = true := by kernel_rfl
set_option maxRecDepth 1000000 in
theorem top_enter4_2 : topEnter 4 2 = true := by kernel_rfl
set_option maxRecDepth 1000000 in
theorem top_rounds4_2 (g : Nat → Value) : topRounds 4 2 g = true := by kernel_rfl
set_option maxRecDepth 1000000 in
theorem top_enter4_3 : topEnter 4 3 = true := by kernel_rfl
set_option maxRecDepth 1000000 in
theorem top_rounds4_3 (g : Nat → Value) : topRounds 4 3 g = true := by kernel_rfl
set_option maxRecDepth 1000000 in
theorem top_enter4_4 : topEnter 4 4 = true := by kernel_rfl
set_option maxRecDepth 1000000 in
theorem top_rounds4_4 (g : Nat → Value) : topRounds 4 4 g = true := by kernel_rfl
end Go.Proofs.YtedeecnibmgobaaDoor
