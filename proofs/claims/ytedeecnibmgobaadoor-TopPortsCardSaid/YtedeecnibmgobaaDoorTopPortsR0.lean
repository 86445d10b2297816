/- The law TopPorts: its rounds. -/
import Derived.Test.YtedeecnibmgobaaDoorTopPortsH
namespace Go.Proofs.YtedeecnibmgobaaDoor
open Go Go.RowKit SX
set_option linter.unusedVariables false
set_option maxRecDepth 1000000 in
theorem top_enter1_0 : topEnter 1 0 = true := by kernel_rfl
set_option maxRecDepth 1000000 in
theorem top_rounds1_0 (g : Nat → Value) : topRounds 1 0 g = true := by kernel_rfl
set_option maxRecDepth 1000000 in
theorem top_enter1_1 : topEnter 1 1 = true := by kernel_rfl
set_option maxRecDepth 1000000 in
theorem top_rounds1_1 (g : Nat → Value) : topRounds 1 1 g = true := by kernel_rfl
set_option maxRecDepth 1000000 in
theorem top_enter2_0 : topEnter 2 0 = true := by kernel_rfl
set_option maxRecDepth 1000000 in
theorem top_rounds2_0 (g : Nat → Value) : topRounds 2 0 g = true := by kernel_rfl
set_option maxRecDepth 1000000 in
theorem top_enter2_1 : topEnter 2 1 = true := by kernel_rfl
set_option maxRecDepth 1000000 in
theorem top_rounds2_1 (g : Nat → Value) : topRounds 2 1 g = true := by kernel_rfl
set_option maxRecDepth 1000000 in
theorem top_enter2_2 : topEnter 2 2 = true := by kernel_rfl
set_option maxRecDepth 1000000 in
theorem top_rounds2_2 (g : Nat → Value) : topRounds 2 2 g = true := by kernel_rfl
set_option maxRecDepth 1000000 in
theorem top_enter3_0 : topEnter 3 0 = true := by kernel_rfl
set_option maxRecDepth 1000000 in
theorem top_rounds3_0 (g : Nat → Value) : topRounds 3 0 g = true := by kernel_rfl
end Go.Proofs.YtedeecnibmgobaaDoor
