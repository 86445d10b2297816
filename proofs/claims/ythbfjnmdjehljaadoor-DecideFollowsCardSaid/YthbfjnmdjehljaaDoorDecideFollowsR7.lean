/- The law DecideFollows of layer 36: its rounds. -/
import Derived.Test.YthbfjnmdjehljaaDoorDecideFollowsH
namespace Go.Proofs.YthbfjnmdjehljaaDoor
open Go Go.RowKit SX
set_option linter.unusedVariables false
set_option maxRecDepth 1000000 in
theorem fol_rounds7_1_3 (g : Nat → Value) : folRounds 7 1 3 g = true := by kernel_rfl
set_option maxRecDepth 1000000 in
theorem fol_rounds7_1_4 (g : Nat → Value) : folRounds 7 1 4 g = true := by kernel_rfl
set_option maxRecDepth 1000000 in
theorem fol_rounds7_1_5 (g : Nat → Value) : folRounds 7 1 5 g = true := by kernel_rfl
set_option maxRecDepth 1000000 in
theorem fol_rounds7_1_6 (g : Nat → Value) : folRounds 7 1 6 g = true := by kernel_rfl
set_option maxRecDepth 1000000 in
theorem fol_rounds7_2_0 (g : Nat → Value) : folRounds 7 2 0 g = true := by kernel_rfl
end Go.Proofs.YthbfjnmdjehljaaDoor
