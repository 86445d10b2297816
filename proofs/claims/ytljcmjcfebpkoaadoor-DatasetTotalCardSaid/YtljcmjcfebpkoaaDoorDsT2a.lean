/- Layer 34, DatasetTotal: its ways, order by order. -/
import Derived.Test.YtljcmjcfebpkoaaDoorDsT1
namespace Go.Proofs.YtljcmjcfebpkoaaDoor
open Go Go.RowKit SX
open DsLaw (lt)
set_option linter.unusedVariables false
set_option maxRecDepth 1000000 in
theorem tot_P012 : (totT 0 11 22 (three 0 11 22)).all isTrueF = true := by kernel_rfl
set_option maxRecDepth 1000000 in
theorem tot_P021 : (totT 0 11 22 (three 0 22 11)).all isTrueF = true := by kernel_rfl
set_option maxRecDepth 1000000 in
theorem tot_P102 : (totT 0 11 22 (three 11 0 22)).all isTrueF = true := by kernel_rfl
set_option maxRecDepth 1000000 in
theorem tot_P120 : (totT 0 11 22 (three 11 22 0)).all isTrueF = true := by kernel_rfl
set_option maxRecDepth 1000000 in
theorem tot_P201 : (totT 0 11 22 (three 22 0 11)).all isTrueF = true := by kernel_rfl
end Go.Proofs.YtljcmjcfebpkoaaDoor
