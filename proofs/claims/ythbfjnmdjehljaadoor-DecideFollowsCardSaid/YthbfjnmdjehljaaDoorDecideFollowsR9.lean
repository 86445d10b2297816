/- The law DecideFollows of layer 36: its rounds. -/
import Derived.Test.YthbfjnmdjehljaaDoorDecideFollowsH
namespace Go.Proofs.YthbfjnmdjehljaaDoor
open Go Go.RowKit SX
set_option linter.unusedVariables false
set_option maxRecDepth 1000000 in
theorem fol_rounds7_2_6 (g : Nat → Value) : folRounds 7 2 6 g = true := by kernel_rfl
set_option maxRecDepth 1000000 in
theorem fol_enter8 : folAll 8 (folEnter 8) = true := by kernel_rfl
set_option maxRecDepth 1000000 in
theorem fol_rounds8_0_8 (g : Nat → Value) : folRounds 8 0 8 g = true := by kernel_rfl
set_option maxRecDepth 1000000 in
theorem fol_rounds8_3_8 (g : Nat → Value) : folRounds 8 3 8 g = true := by kernel_rfl
set_option maxRecDepth 1000000 in
theorem fol_rounds8_1_0 (g : Nat → Value) : folRounds 8 1 0 g = true := by kernel_rfl
end Go.Proofs.YthbfjnmdjehljaaDoor
