/- For TopPorts: the decision of 4 and 5 ports, round by round. -/
import Derived.Test.YtedeecnibmgobaaDoorTpC
namespace Go.Proofs.YtedeecnibmgobaaDoor
open Go Go.RowKit SX
set_option linter.unusedVariables false
set_option maxRecDepth 1000000 in
theorem decA_enter4 : decEnterA 4 = true := by kernel_rfl
set_option maxRecDepth 1000000 in
theorem decA_rounds4 (g : Nat → Value) : upTo 4 (fun i => decRoundA 4 i g) = true := by kernel_rfl
set_option maxRecDepth 1000000 in
theorem decA_enter5 : decEnterA 5 = true := by kernel_rfl
set_option maxRecDepth 1000000 in
theorem decA_rounds5 (g : Nat → Value) : upTo 5 (fun i => decRoundA 5 i g) = true := by kernel_rfl
end Go.Proofs.YtedeecnibmgobaaDoor
