/- For TopPorts: the decision of 8 ports, round by round. -/
import Derived.Test.YtedeecnibmgobaaDoorTpC
namespace Go.Proofs.YtedeecnibmgobaaDoor
open Go Go.RowKit SX
set_option linter.unusedVariables false
set_option maxRecDepth 1000000 in
theorem decA_enter8 : decEnterA 8 = true := by kernel_rfl
set_option maxRecDepth 1000000 in
theorem decA_rounds8 (g : Nat → Value) : upTo 8 (fun i => decRoundA 8 i g) = true := by kernel_rfl
end Go.Proofs.YtedeecnibmgobaaDoor
