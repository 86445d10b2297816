/- The law E2eRefuses of layer 38: the rounds of template 0. -/
import Derived.Test.YtkjbekloacihaaaE2eRefusesH
namespace Go.Proofs.Ytkjbekloacihaaa
open Go Go.RowKit SX
set_option linter.unusedVariables false
set_option maxRecDepth 1000000 in
theorem ref_round0 (g : Nat → Value) : refRound refT0 g = true := by kernel_rfl
end Go.Proofs.Ytkjbekloacihaaa
