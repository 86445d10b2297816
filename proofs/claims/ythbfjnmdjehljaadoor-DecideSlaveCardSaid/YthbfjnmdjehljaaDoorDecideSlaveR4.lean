/- The law DecideSlave of layer 36: its rounds. -/
import Derived.Test.YthbfjnmdjehljaaDoorDecideSlaveH
namespace Go.Proofs.YthbfjnmdjehljaaDoor
open Go Go.RowKit SX
set_option linter.unusedVariables false
set_option maxRecDepth 1000000 in
theorem slv_rounds8_3 (g : Nat → Value) : slvRounds 8 3 g = true := by kernel_rfl
set_option maxRecDepth 1000000 in
theorem slv_rounds8_4 (g : Nat → Value) : slvRounds 8 4 g = true := by kernel_rfl
set_option maxRecDepth 1000000 in
theorem slv_rounds8_5 (g : Nat → Value) : slvRounds 8 5 g = true := by kernel_rfl
end Go.Proofs.YthbfjnmdjehljaaDoor
