/- For TopPorts: the decision of 1 and 2 and 3 ports, round by round. -/
import Derived.Test.YtedeecnibmgobaaDoorTpC
namespace Go.Proofs.YtedeecnibmgobaaDoor
open Go Go.RowKit SX
set_option linter.unusedVariables false
set_option maxRecDepth 1000000 in
theorem decA_enter1 : decEnterA 1 = true := by kernel_rfl
set_option maxRecDepth 1000000 in
theorem decA_rounds1 (g : Nat → Value) : upTo 1 (fun i => decRoundA 1 i g) = true := by kernel_rfl
set_option maxRecDepth 1000000 in
theorem decA_enter2 : decEnterA 2 = true := by kernel_rfl
set_option maxRecDepth 1000000 in
theorem decA_rounds2 (g : Nat → Value) : upTo 2 (fun i => decRoundA 2 i g) = true := by kernel_rfl
set_option maxRecDepth 1000000 in
theorem decA_enter3 : decEnterA 3 = true := by kernel_rfl
set_option maxRecDepth 1000000 in
theorem decA_rounds3 (g : Nat → Value) : upTo 3 (fun i => decRoundA 3 i g) = true := by kernel_rfl
end Go.Proofs.YtedeecnibmgobaaDoor
