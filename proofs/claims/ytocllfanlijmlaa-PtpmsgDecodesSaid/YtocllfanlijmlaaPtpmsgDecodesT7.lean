/- The law PtpmsgDecodes of layer 33: trees. -/
import Derived.Test.YtocllfanlijmlaaPtpmsgDecodesH
namespace Go.Proofs.Ytocllfanlijmlaa
open Go Go.RowKit SX
set_option linter.unusedVariables false
set_option maxRecDepth 1000000 in
theorem dec_tree7 : ((callF Try.prog (tabGl [] 0) okF sumsC noKeep 80 30 5 (phArgs ([] : Tabs).length (phSize decSh) none decSh 0) (arrHp [] (phKs decSh) (phSize decSh)) ([(E.bin .eq .i64 (.rd 0 4 (.lit 0)) (.lit 0), false), (E.bin .eq .i64 (.rd 0 4 (.lit 0)) (.lit 1), false), (E.bin .eq .i64 (.rd 0 4 (.lit 0)) (.lit 2), false), (E.bin .eq .i64 (.rd 0 4 (.lit 0)) (.lit 3), true), (E.bin .lt .i64 (.rd 0 4 (.lit 33)) (.lit 128), false)] ++ (lenFacts (phSize decSh) ++ phFacts decSh 0))).all isTrueF) = true := by kernel_rfl
end Go.Proofs.Ytocllfanlijmlaa
