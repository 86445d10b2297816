/- The law E2eRuns of layer 38: the rounds of template 0, case 3. -/
import Derived.Test.YtkjbekloacihaaaE2eRunsH
namespace Go.Proofs.Ytkjbekloacihaaa
open Go Go.RowKit SX
set_option linter.unusedVariables false
set_option maxRecDepth 1000000 in
theorem run_round3 (g : Nat → Value) : runRound [(E.bin .eq .i64 (.rd 0 3 runIx) (.lit 0), false), (E.bin .eq .i64 (.rd 0 3 runIx) (.lit 1), false), (E.bin .eq .i64 (.rd 0 3 runIx) (.lit 2), false)] runT0 g = true := by kernel_rfl
end Go.Proofs.Ytkjbekloacihaaa
