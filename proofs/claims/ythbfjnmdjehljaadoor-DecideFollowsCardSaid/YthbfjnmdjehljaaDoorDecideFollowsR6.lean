/- The law DecideFollows of layer 36: its rounds. -/
import Derived.Test.YthbfjnmdjehljaaDoorDecideFollowsH
namespace Go.Proofs.YthbfjnmdjehljaaDoor
open Go Go.RowKit SX
set_option linter.unusedVariables false
set_option maxRecDepth 1000000 in
theorem fol_rounds7_0_7 (g : Nat → Value) : folRounds 7 0 7 g = true := by kernel_rfl
set_option maxRecDepth 1000000 in
theorem fol_rounds7_3_7 (g : Nat → Value) : folRounds 7 3 7 g = true := by kernel_rfl
set_option maxRecDepth 1000000 in
theorem fol_rounds7_1_0 (g : Nat → Value) : folRounds 7 1 0 g = true := by kernel_rfl
set_option maxRecDepth 1000000 in
theorem fol_rounds7_1_1 (g : Nat → Value) : folRounds 7 1 1 g = true := by kernel_rfl
set_option maxRecDepth 1000000 in
theorem fol_rounds7_1_2 (g : Nat → Value) : folRounds 7 1 2 g = true := by kernel_rfl
end Go.Proofs.YthbfjnmdjehljaaDoor
