/- The law DecideSlave of layer 36: its rounds. -/
import Derived.Test.YthbfjnmdjehljaaDoorDecideSlaveH
namespace Go.Proofs.YthbfjnmdjehljaaDoor
open Go Go.RowKit SX
set_option linter.unusedVariables false
set_option maxRecDepth 1000000 in
theorem slv_rounds8_6 (g : Nat → Value) : slvRounds 8 6 g = true := by kernel_rfl
set_option maxRecDepth 1000000 in
theorem slv_rounds8_7 (g : Nat → Value) : slvRounds 8 7 g = true := by kernel_rfl
set_option maxRecDepth 1000000 in
theorem slv_rounds8_8 (g : Nat → Value) : slvRounds 8 8 g = true := by kernel_rfl
end Go.Proofs.YthbfjnmdjehljaaDoor
