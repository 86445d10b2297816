/- The law DecideFollows of layer 36: its rounds. -/
import Derived.Test.YthbfjnmdjehljaaDoorDecideFollowsH
namespace Go.Proofs.YthbfjnmdjehljaaDoor
open Go Go.RowKit SX
set_option linter.unusedVariables false
set_option maxRecDepth 1000000 in
theorem fol_rounds7_2_1 (g : Nat → Value) : folRounds 7 2 1 g = true := by kernel_rfl
set_option maxRecDepth 1000000 in
theorem fol_rounds7_2_2 (g : Nat → Value) : folRounds 7 2 2 g = true := by kernel_rfl
set_option maxRecDepth 1000000 in
theorem fol_rounds7_2_3 (g : Nat → Value) : folRounds 7 2 3 g = true := by kernel_rfl
set_option maxRecDepth 1000000 in
theorem fol_rounds7_2_4 (g : Nat → Value) : folRounds 7 2 4 g = true := by kernel_rfl
set_option maxRecDepth 1000000 in
theorem fol_rounds7_2_5 (g : Nat → Value) : folRounds 7 2 5 g = true := by kernel_rfl
end Go.Proofs.YthbfjnmdjehljaaDoor
