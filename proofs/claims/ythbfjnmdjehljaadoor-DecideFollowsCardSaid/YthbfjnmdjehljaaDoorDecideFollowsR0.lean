/- The law DecideFollows of layer 36: its rounds. -/
import Derived.Test.YthbfjnmdjehljaaDoorDecideFollowsH
namespace Go.Proofs.YthbfjnmdjehljaaDoor
open Go Go.RowKit SX
set_option linter.unusedVariables false
set_option maxRecDepth 1000000 in
theorem fol_enter1 : folAll 1 (folEnter 1) = true := by kernel_rfl
set_option maxRecDepth 1000000 in
theorem fol_rounds1_0_1 (g : Nat → Value) : folRounds 1 0 1 g = true := by kernel_rfl
set_option maxRecDepth 1000000 in
theorem fol_rounds1_3_1 (g : Nat → Value) : folRounds 1 3 1 g = true := by kernel_rfl
set_option maxRecDepth 1000000 in
theorem fol_rounds1_1_0 (g : Nat → Value) : folRounds 1 1 0 g = true := by kernel_rfl
set_option maxRecDepth 1000000 in
theorem fol_rounds1_2_0 (g : Nat → Value) : folRounds 1 2 0 g = true := by kernel_rfl
set_option maxRecDepth 1000000 in
theorem fol_enter2 : folAll 2 (folEnter 2) = true := by kernel_rfl
set_option maxRecDepth 1000000 in
theorem fol_rounds2_0_2 (g : Nat → Value) : folRounds 2 0 2 g = true := by kernel_rfl
set_option maxRecDepth 1000000 in
theorem fol_rounds2_3_2 (g : Nat → Value) : folRounds 2 3 2 g = true := by kernel_rfl
set_option maxRecDepth 1000000 in
theorem fol_rounds2_1_0 (g : Nat → Value) : folRounds 2 1 0 g = true := by kernel_rfl
set_option maxRecDepth 1000000 in
theorem fol_rounds2_1_1 (g : Nat → Value) : folRounds 2 1 1 g = true := by kernel_rfl
set_option maxRecDepth 1000000 in
theorem fol_rounds2_2_0 (g : Nat → Value) : folRounds 2 2 0 g = true := by kernel_rfl
set_option maxRecDepth 1000000 in
theorem fol_rounds2_2_1 (g : Nat → Value) : folRounds 2 2 1 g = true := by kernel_rfl
set_option maxRecDepth 1000000 in
theorem fol_enter3 : folAll 3 (folEnter 3) = true := by kernel_rfl
set_option maxRecDepth 1000000 in
theorem fol_rounds3_0_3 (g : Nat → Value) : folRounds 3 0 3 g = true := by kernel_rfl
set_option maxRecDepth 1000000 in
theorem fol_rounds3_3_3 (g : Nat → Value) : folRounds 3 3 3 g = true := by kernel_rfl
set_option maxRecDepth 1000000 in
theorem fol_rounds3_1_0 (g : Nat → Value) : folRounds 3 1 0 g = true := by kernel_rfl
set_option maxRecDepth 1000000 in
theorem fol_rounds3_1_1 (g : Nat → Value) : folRounds 3 1 1 g = true := by kernel_rfl
set_option maxRecDepth 1000000 in
theorem fol_rounds3_1_2 (g : Nat → Value) : folRounds 3 1 2 g = true := by kernel_rfl
set_option maxRecDepth 1000000 in
theorem fol_rounds3_2_0 (g : Nat → Value) : folRounds 3 2 0 g = true := by kernel_rfl
end Go.Proofs.YthbfjnmdjehljaaDoor
