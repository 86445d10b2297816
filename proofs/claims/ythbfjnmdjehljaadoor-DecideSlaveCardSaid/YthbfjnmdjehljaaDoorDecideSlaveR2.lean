/- The law DecideSlave of layer 36: its rounds. -/
import Derived.Test.YthbfjnmdjehljaaDoorDecideSlaveH
namespace Go.Proofs.YthbfjnmdjehljaaDoor
open Go Go.RowKit SX
set_option linter.unusedVariables false
set_option maxRecDepth 1000000 in
theorem slv_enter7 : upTo 7 (slvEnter 7) = true := by kernel_rfl
set_option maxRecDepth 1000000 in
theorem slv_rounds7 (g : Nat → Value) : upTo 7 (fun s => slvRounds 7 s g) = true := by kernel_rfl
set_option maxRecDepth 1000000 in
theorem slv_enter8 : upTo 8 (slvEnter 8) = true := by kernel_rfl
end Go.Proofs.YthbfjnmdjehljaaDoor
