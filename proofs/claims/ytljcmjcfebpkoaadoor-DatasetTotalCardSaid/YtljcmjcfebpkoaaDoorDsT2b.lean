/- Layer 34, DatasetTotal: its ways, order by order. -/
import Derived.Test.YtljcmjcfebpkoaaDoorDsT1
namespace Go.Proofs.YtljcmjcfebpkoaaDoor
open Go Go.RowKit SX
open DsLaw (lt)
set_option linter.unusedVariables false
set_option maxRecDepth 1000000 in
theorem tot_P210 : (totT 0 11 22 (three 22 11 0)).all isTrueF = true := by kernel_rfl
set_option maxRecDepth 1000000 in
theorem tot_AB1 : (totT 0 0 22 (two 0 22)).all isTrueF = true := by kernel_rfl
set_option maxRecDepth 1000000 in
theorem tot_AB2 : (totT 0 0 22 (two 22 0)).all isTrueF = true := by kernel_rfl
set_option maxRecDepth 1000000 in
theorem tot_AC1 : (totT 0 11 0 (two 0 11)).all isTrueF = true := by kernel_rfl
set_option maxRecDepth 1000000 in
theorem tot_AC2 : (totT 0 11 0 (two 11 0)).all isTrueF = true := by kernel_rfl
end Go.Proofs.YtljcmjcfebpkoaaDoor
