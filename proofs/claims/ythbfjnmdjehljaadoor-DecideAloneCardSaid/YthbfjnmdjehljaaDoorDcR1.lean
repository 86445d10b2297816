/- Layer 36: the decision of 4 and 5 ports, round by round. -/
import Derived.Test.YthbfjnmdjehljaaDoorDcC
namespace Go.Proofs.YthbfjnmdjehljaaDoor
open Go Go.RowKit SX
set_option linter.unusedVariables false
set_option maxRecDepth 1000000 in
theorem decA_enter4 : decEnterA 4 = true := by kernel_rfl
set_option maxRecDepth 1000000 in
theorem decA_rounds4 (g : Nat → Value) : upTo 4 (fun i => decRoundA 4 i g) = true := by kernel_rfl
set_option maxRecDepth 1000000 in
theorem decB_enter4 : decEnterB 4 = true := by kernel_rfl
set_option maxRecDepth 1000000 in
theorem decB_rounds4 (g : Nat → Value) : upTo 4 (fun i => decRoundB 4 i g) = true := by kernel_rfl
set_option maxRecDepth 1000000 in
theorem decA_enter5 : decEnterA 5 = true := by kernel_rfl
set_option maxRecDepth 1000000 in
theorem decA_rounds5 (g : Nat → Value) : upTo 5 (fun i => decRoundA 5 i g) = true := by kernel_rfl
set_option maxRecDepth 1000000 in
theorem decB_enter5 : decEnterB 5 = true := by kernel_rfl
set_option maxRecDepth 1000000 in
theorem decB_rounds5 (g : Nat → Value) : upTo 5 (fun i => decRoundB 5 i g) = true := by kernel_rfl
end Go.Proofs.YthbfjnmdjehljaaDoor
