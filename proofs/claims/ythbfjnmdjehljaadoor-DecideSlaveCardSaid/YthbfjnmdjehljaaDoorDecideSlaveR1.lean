/- The law DecideSlave of layer 36: its rounds. -/
import Derived.Test.YthbfjnmdjehljaaDoorDecideSlaveH
namespace Go.Proofs.YthbfjnmdjehljaaDoor
open Go Go.RowKit SX
set_option linter.unusedVariables false
set_option maxRecDepth 1000000 in
theorem slv_enter5 : upTo 5 (slvEnter 5) = true := by kernel_rfl
set_option maxRecDepth 1000000 in
theorem slv_rounds5 (g : Nat → Value) : upTo 5 (fun s => slvRounds 5 s g) = true := by kernel_rfl
set_option maxRecDepth 1000000 in
theorem slv_enter6 : upTo 6 (slvEnter 6) = true := by kernel_rfl
set_option maxRecDepth 1000000 in
theorem slv_rounds6 (g : Nat → Value) : upTo 6 (fun s => slvRounds 6 s g) = true := by kernel_rfl
end Go.Proofs.YthbfjnmdjehljaaDoor
