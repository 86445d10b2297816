/- For TopPorts: the decision of 6 ports, round by round. -/
import Derived.Test.YtedeecnibmgobaaDoorTpC
namespace Go.Proofs.YtedeecnibmgobaaDoor
open Go Go.RowKit SX
set_option linter.unusedVariables false
set_option maxRecDepth 1000000 in
theorem decA_enter6 : decEnterA 6 = true := by kernel_rfl
set_option maxRecDepth 1000000 in
theorem decA_rounds6 (g : Nat → Value) : upTo 6 (fun i => decRoundA 6 i g) = true := by kernel_rfl
end Go.Proofs.YtedeecnibmgobaaDoor
