/- The law DatasetFarther of layer 34: the rounds of template 1. -/
import Derived.Test.YtljcmjcfebpkoaaDoorDatasetFartherH
namespace Go.Proofs.YtljcmjcfebpkoaaDoor
open Go Go.RowKit SX
set_option linter.unusedVariables false
set_option maxRecDepth 1000000 in
theorem far_round1 (g : Nat → Value) : farRound farT1 g = true := by kernel_rfl
end Go.Proofs.YtljcmjcfebpkoaaDoor
