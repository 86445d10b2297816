/- The law PtpmsgEncodes of layer 33: trees. -/
import Derived.Test.YtocllfanlijmlaaPtpmsgEncodesH
namespace Go.Proofs.Ytocllfanlijmlaa
open Go Go.RowKit SX
set_option linter.unusedVariables false
set_option maxRecDepth 1000000 in
theorem enc_tree6 : ((callF Try.prog (tabGl [] 0) okF sums33 noKeep 80 30 4 (varShs encSh 0) (tabHp []) ([(encIs 10, true)])).all isTrueF) = true := by kernel_rfl
set_option maxRecDepth 1000000 in
theorem enc_tree7 : ((callF Try.prog (tabGl [] 0) okF sums33 noKeep 80 30 4 (varShs encSh 0) (tabHp []) ([(encIs 11, true)])).all isTrueF) = true := by kernel_rfl
end Go.Proofs.Ytocllfanlijmlaa
