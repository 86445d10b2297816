/- The law DecideFollows of layer 36: its rounds. -/
import Derived.Test.YthbfjnmdjehljaaDoorDecideFollowsH
namespace Go.Proofs.YthbfjnmdjehljaaDoor
open Go Go.RowKit SX
set_option linter.unusedVariables false
set_option maxRecDepth 1000000 in
theorem fol_rounds3_2_1 (g : Nat → Value) : folRounds 3 2 1 g = true := by kernel_rfl
set_option maxRecDepth 1000000 in
theorem fol_rounds3_2_2 (g : Nat → Value) : folRounds 3 2 2 g = true := by kernel_rfl
set_option maxRecDepth 1000000 in
theorem fol_enter4 : folAll 4 (folEnter 4) = true := by kernel_rfl
set_option maxRecDepth 1000000 in
theorem fol_rounds4_0_4 (g : Nat → Value) : folRounds 4 0 4 g = true := by kernel_rfl
set_option maxRecDepth 1000000 in
theorem fol_rounds4_3_4 (g : Nat → Value) : folRounds 4 3 4 g = true := by kernel_rfl
set_option maxRecDepth 1000000 in
theorem fol_rounds4_1_0 (g : Nat → Value) : folRounds 4 1 0 g = true := by kernel_rfl
set_option maxRecDepth 1000000 in
theorem fol_rounds4_1_1 (g : Nat → Value) : folRounds 4 1 1 g = true := by kernel_rfl
set_option maxRecDepth 1000000 in
theorem fol_rounds4_1_2 (g : Nat → Value) : folRounds 4 1 2 g = true := by kernel_rfl
set_option maxRecDepth 1000000 in
theorem fol_rounds4_1_3 (g : Nat → Value) : folRounds 4 1 3 g = true := by kernel_rfl
set_option maxRecDepth 1000000 in
theorem fol_rounds4_2_0 (g : Nat → Value) : folRounds 4 2 0 g = true := by kernel_rfl
set_option maxRecDepth 1000000 in
theorem fol_rounds4_2_1 (g : Nat → Value) : folRounds 4 2 1 g = true := by kernel_rfl
end Go.Proofs.YthbfjnmdjehljaaDoor
