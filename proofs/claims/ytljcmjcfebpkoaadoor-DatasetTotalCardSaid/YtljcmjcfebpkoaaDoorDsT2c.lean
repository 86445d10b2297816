/- Layer 34, DatasetTotal: its ways, order by order. -/
import Derived.Test.YtljcmjcfebpkoaaDoorDsT1
namespace Go.Proofs.YtljcmjcfebpkoaaDoor
open Go Go.RowKit SX
open DsLaw (lt)
set_option linter.unusedVariables false
set_option maxRecDepth 1000000 in
theorem tot_BC1 : (totT 0 11 11 (two 0 11)).all isTrueF = true := by kernel_rfl
set_option maxRecDepth 1000000 in
theorem tot_BC2 : (totT 0 11 11 (two 11 0)).all isTrueF = true := by kernel_rfl
set_option maxRecDepth 1000000 in
theorem tot_ABC : (totT 0 0 0 (lessF 0 0 false)).all isTrueF = true := by kernel_rfl
end Go.Proofs.YtljcmjcfebpkoaaDoor
