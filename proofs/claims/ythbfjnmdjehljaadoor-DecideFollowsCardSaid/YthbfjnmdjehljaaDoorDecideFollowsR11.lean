/- The law DecideFollows of layer 36: its rounds. -/
import Derived.Test.YthbfjnmdjehljaaDoorDecideFollowsH
namespace Go.Proofs.YthbfjnmdjehljaaDoor
open Go Go.RowKit SX
set_option linter.unusedVariables false
set_option maxRecDepth 1000000 in
theorem fol_rounds8_1_6 (g : Nat → Value) : folRounds 8 1 6 g = true := by kernel_rfl
set_option maxRecDepth 1000000 in
theorem fol_rounds8_1_7 (g : Nat → Value) : folRounds 8 1 7 g = true := by kernel_rfl
set_option maxRecDepth 1000000 in
theorem fol_rounds8_2_0 (g : Nat → Value) : folRounds 8 2 0 g = true := by kernel_rfl
set_option maxRecDepth 1000000 in
theorem fol_rounds8_2_1 (g : Nat → Value) : folRounds 8 2 1 g = true := by kernel_rfl
set_option maxRecDepth 1000000 in
theorem fol_rounds8_2_2 (g : Nat → Value) : folRounds 8 2 2 g = true := by kernel_rfl
end Go.Proofs.YthbfjnmdjehljaaDoor
