/- The law DecideFollows of layer 36: its rounds. -/
import Derived.Test.YthbfjnmdjehljaaDoorDecideFollowsH
namespace Go.Proofs.YthbfjnmdjehljaaDoor
open Go Go.RowKit SX
set_option linter.unusedVariables false
set_option maxRecDepth 1000000 in
theorem fol_rounds5_1_4 (g : Nat → Value) : folRounds 5 1 4 g = true := by kernel_rfl
set_option maxRecDepth 1000000 in
theorem fol_rounds5_2_0 (g : Nat → Value) : folRounds 5 2 0 g = true := by kernel_rfl
set_option maxRecDepth 1000000 in
theorem fol_rounds5_2_1 (g : Nat → Value) : folRounds 5 2 1 g = true := by kernel_rfl
set_option maxRecDepth 1000000 in
theorem fol_rounds5_2_2 (g : Nat → Value) : folRounds 5 2 2 g = true := by kernel_rfl
set_option maxRecDepth 1000000 in
theorem fol_rounds5_2_3 (g : Nat → Value) : folRounds 5 2 3 g = true := by kernel_rfl
set_option maxRecDepth 1000000 in
theorem fol_rounds5_2_4 (g : Nat → Value) : folRounds 5 2 4 g = true := by kernel_rfl
set_option maxRecDepth 1000000 in
theorem fol_enter6 : folAll 6 (folEnter 6) = true := by kernel_rfl
set_option maxRecDepth 1000000 in
theorem fol_rounds6_0_6 (g : Nat → Value) : folRounds 6 0 6 g = true := by kernel_rfl
end Go.Proofs.YthbfjnmdjehljaaDoor
