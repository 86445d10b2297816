/- The law DecideFollows of layer 36: its rounds. -/
import Derived.Test.YthbfjnmdjehljaaDoorDecideFollowsH
namespace Go.Proofs.YthbfjnmdjehljaaDoor
open Go Go.RowKit SX
set_option linter.unusedVariables false
set_option maxRecDepth 1000000 in
theorem fol_rounds8_2_3 (g : Nat → Value) : folRounds 8 2 3 g = true := by kernel_rfl
set_option maxRecDepth 1000000 in
theorem fol_rounds8_2_4 (g : Nat → Value) : folRounds 8 2 4 g = true := by kernel_rfl
set_option maxRecDepth 1000000 in
theorem fol_rounds8_2_5 (g : Nat → Value) : folRounds 8 2 5 g = true := by kernel_rfl
set_option maxRecDepth 1000000 in
theorem fol_rounds8_2_6 (g : Nat → Value) : folRounds 8 2 6 g = true := by kernel_rfl
set_option maxRecDepth 1000000 in
theorem fol_rounds8_2_7 (g : Nat → Value) : folRounds 8 2 7 g = true := by kernel_rfl
end Go.Proofs.YthbfjnmdjehljaaDoor
