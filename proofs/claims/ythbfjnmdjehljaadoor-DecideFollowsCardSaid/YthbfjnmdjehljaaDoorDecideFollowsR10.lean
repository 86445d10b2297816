/- The law DecideFollows of layer 36: its rounds. -/
import Derived.Test.YthbfjnmdjehljaaDoorDecideFollowsH
namespace Go.Proofs.YthbfjnmdjehljaaDoor
open Go Go.RowKit SX
set_option linter.unusedVariables false
set_option maxRecDepth 1000000 in
theorem fol_rounds8_1_1 (g : Nat → Value) : folRounds 8 1 1 g = true := by kernel_rfl
set_option maxRecDepth 1000000 in
theorem fol_rounds8_1_2 (g : Nat → Value) : folRounds 8 1 2 g = true := by kernel_rfl
set_option maxRecDepth 1000000 in
theorem fol_rounds8_1_3 (g : Nat → Value) : folRounds 8 1 3 g = true := by kernel_rfl
set_option maxRecDepth 1000000 in
theorem fol_rounds8_1_4 (g : Nat → Value) : folRounds 8 1 4 g = true := by kernel_rfl
set_option maxRecDepth 1000000 in
theorem fol_rounds8_1_5 (g : Nat → Value) : folRounds 8 1 5 g = true := by kernel_rfl
end Go.Proofs.YthbfjnmdjehljaaDoor
