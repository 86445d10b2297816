/- The law PtpmsgEncodes of layer 33: trees. -/
import Derived.Test.YtocllfanlijmlaaPtpmsgEncodesH
namespace Go.Proofs.Ytocllfanlijmlaa
open Go Go.RowKit SX
set_option linter.unusedVariables false
set_option maxRecDepth 1000000 in
theorem enc_treeN : ((callF Try.prog (tabGl [] 0) okF sums33 noKeep 80 30 4 (varShs encSh 0) (tabHp []) ([(encIs 0, false)] ++ [(encIs 1, false)] ++ [(encIs 2, false)] ++ [(encIs 3, false)] ++ [(encIs 8, false)] ++ [(encIs 9, false)] ++ [(encIs 10, false)] ++ [(encIs 11, false)])).all isTrueF) = true := by kernel_rfl
end Go.Proofs.Ytocllfanlijmlaa
