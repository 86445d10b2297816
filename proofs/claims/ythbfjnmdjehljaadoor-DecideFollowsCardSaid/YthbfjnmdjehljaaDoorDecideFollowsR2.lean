/- The law DecideFollows of layer 36: its rounds. -/
import Derived.Test.YthbfjnmdjehljaaDoorDecideFollowsH
namespace Go.Proofs.YthbfjnmdjehljaaDoor
open Go Go.RowKit SX
set_option linter.unusedVariables false
set_option maxRecDepth 1000000 in
theorem fol_rounds4_2_2 (g : Nat → Value) : folRounds 4 2 2 g = true := by kernel_rfl
set_option maxRecDepth 1000000 in
theorem fol_rounds4_2_3 (g : Nat → Value) : folRounds 4 2 3 g = true := by kernel_rfl
set_option maxRecDepth 1000000 in
theorem fol_enter5 : folAll 5 (folEnter 5) = true := by kernel_rfl
set_option maxRecDepth 1000000 in
theorem fol_rounds5_0_5 (g : Nat → Value) : folRounds 5 0 5 g = true := by kernel_rfl
set_option maxRecDepth 1000000 in
theorem fol_rounds5_3_5 (g : Nat → Value) : folRounds 5 3 5 g = true := by kernel_rfl
set_option maxRecDepth 1000000 in
theorem fol_rounds5_1_0 (g : Nat → Value) : folRounds 5 1 0 g = true := by kernel_rfl
set_option maxRecDepth 1000000 in
theorem fol_rounds5_1_1 (g : Nat → Value) : folRounds 5 1 1 g = true := by kernel_rfl
set_option maxRecDepth 1000000 in
theorem fol_rounds5_1_2 (g : Nat → Value) : folRounds 5 1 2 g = true := by kernel_rfl
set_option maxRecDepth 1000000 in
theorem fol_rounds5_1_3 (g : Nat → Value) : folRounds 5 1 3 g = true := by kernel_rfl
end Go.Proofs.YthbfjnmdjehljaaDoor
