/- The law DecideSlave of layer 36: its rounds. -/
import Derived.Test.YthbfjnmdjehljaaDoorDecideSlaveH
namespace Go.Proofs.YthbfjnmdjehljaaDoor
open Go Go.RowKit SX
set_option linter.unusedVariables false
set_option maxRecDepth 1000000 in
theorem slv_rounds8_0 (g : Nat → Value) : slvRounds 8 0 g = true := by kernel_rfl
set_option maxRecDepth 1000000 in
theorem slv_rounds8_1 (g : Nat → Value) : slvRounds 8 1 g = true := by kernel_rfl
set_option maxRecDepth 1000000 in
theorem slv_rounds8_2 (g : Nat → Value) : slvRounds 8 2 g = true := by kernel_rfl
end Go.Proofs.YthbfjnmdjehljaaDoor
