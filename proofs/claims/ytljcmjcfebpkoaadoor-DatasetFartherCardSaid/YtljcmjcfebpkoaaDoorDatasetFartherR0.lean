/- The law DatasetFarther of layer 34: the rounds of template 0. -/
import Derived.Test.YtljcmjcfebpkoaaDoorDatasetFartherH
namespace Go.Proofs.YtljcmjcfebpkoaaDoor
open Go Go.RowKit SX
set_option linter.unusedVariables false
set_option maxRecDepth 1000000 in
theorem far_round0 (g : Nat → Value) : farRound farT0 g = true := by kernel_rfl
end Go.Proofs.YtljcmjcfebpkoaaDoor
