/- For TopPorts: the decision of 7 ports, round by round. -/
import Derived.Test.YtedeecnibmgobaaDoorTpC
namespace Go.Proofs.YtedeecnibmgobaaDoor
open Go Go.RowKit SX
set_option linter.unusedVariables false
set_option maxRecDepth 1000000 in
theorem decA_enter7 : decEnterA 7 = true := by kernel_rfl
set_option maxRecDepth 1000000 in
theorem decA_rounds7 (g : Nat → Value) : upTo 7 (fun i => decRoundA 7 i g) = true := by kernel_rfl
end Go.Proofs.YtedeecnibmgobaaDoor
