/- The law PtpmsgCanonical of layer 33: trees. -/
import Derived.Test.YtocllfanlijmlaaPtpmsgCanonicalH
namespace Go.Proofs.Ytocllfanlijmlaa
open Go Go.RowKit SX
set_option linter.unusedVariables false
set_option maxRecDepth 1000000 in
theorem can_tree8 : ((callF Try.prog (tabGl [] 0) okF sumsC noKeep 80 30 6 (phArgs ([] : Tabs).length (phSize canSh) none canSh 0) (arrHp [] (phKs canSh) (phSize canSh)) ([(E.bin .eq .i64 (.rd 0 4 (.lit 0)) (.lit 0), false), (E.bin .eq .i64 (.rd 0 4 (.lit 0)) (.lit 1), false), (E.bin .eq .i64 (.rd 0 4 (.lit 0)) (.lit 2), false), (E.bin .eq .i64 (.rd 0 4 (.lit 0)) (.lit 3), false), (E.bin .eq .i64 (.rd 0 4 (.lit 0)) (.lit 8), false), (E.bin .eq .i64 (.rd 0 4 (.lit 0)) (.lit 9), false), (E.bin .eq .i64 (.rd 0 4 (.lit 0)) (.lit 10), false), (E.bin .eq .i64 (.rd 0 4 (.lit 0)) (.lit 11), false)] ++ (lenFacts (phSize canSh) ++ phFacts canSh 0))).all isTrueF) = true := by kernel_rfl
set_option maxRecDepth 1000000 in
theorem can_treeE : ((callF Try.prog (tabGl [] 0) okF sumsC noKeep 80 30 6 (phArgs ([] : Tabs).length (phSize canSh) (some (inpNo ([] : Tabs).length (phKs canSh).length (phSize canSh))) canSh 0) (noHp []) (phFacts canSh 0)).all isTrueF) = true := by kernel_rfl
set_option maxRecDepth 1000000 in
theorem can_treeN : ((callF Try.prog (tabGl [] 0) okF sumsC noKeep 80 30 6 (phArgs ([] : Tabs).length (phSize canSh) (some rawNil) canSh 0) (noHp []) (phFacts canSh 0)).all isTrueF) = true := by kernel_rfl
end Go.Proofs.Ytocllfanlijmlaa
