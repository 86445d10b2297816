/- The law DecideSlave of layer 36: its rounds. -/
import Derived.Test.YthbfjnmdjehljaaDoorDecideSlaveH
namespace Go.Proofs.YthbfjnmdjehljaaDoor
open Go Go.RowKit SX
set_option linter.unusedVariables false
set_option maxRecDepth 1000000 in
theorem slv_enter1 : upTo 1 (slvEnter 1) = true := by kernel_rfl
set_option maxRecDepth 1000000 in
theorem slv_rounds1 (g : Nat → Value) : upTo 1 (fun s => slvRounds 1 s g) = true := by kernel_rfl
set_option maxRecDepth 1000000 in
theorem slv_enter2 : upTo 2 (slvEnter 2) = true := by kernel_rfl
set_option maxRecDepth 1000000 in
theorem slv_rounds2 (g : Nat → Value) : upTo 2 (fun s => slvRounds 2 s g) = true := by kernel_rfl
set_option maxRecDepth 1000000 in
theorem slv_enter3 : upTo 3 (slvEnter 3) = true := by kernel_rfl
set_option maxRecDepth 1000000 in
theorem slv_rounds3 (g : Nat → Value) : upTo 3 (fun s => slvRounds 3 s g) = true := by kernel_rfl
set_option maxRecDepth 1000000 in
theorem slv_enter4 : upTo 4 (slvEnter 4) = true := by kernel_rfl
set_option maxRecDepth 1000000 in
theorem slv_rounds4 (g : Nat → Value) : upTo 4 (fun s => slvRounds 4 s g) = true := by kernel_rfl
end Go.Proofs.YthbfjnmdjehljaaDoor
