/- Records of package foreign: Forget and Qualified by the number of records. -/
import Derived.Test.YtbjficjcgpgcbaaDoorFk
namespace Go.Proofs.YtbjficjcgpgcbaaDoor
open Go Go.RowKit SX Frm Frn
set_option linter.unusedVariables false
set_option maxRecDepth 1000000 in
theorem forg_2 : forgB 2 = true := by kernel_rfl
set_option maxRecDepth 1000000 in
theorem qual_2 : qualB 2 = true := by kernel_rfl
set_option maxRecDepth 1000000 in
theorem forg_3 : forgB 3 = true := by kernel_rfl
set_option maxRecDepth 1000000 in
theorem qual_3 : qualB 3 = true := by kernel_rfl
set_option maxRecDepth 1000000 in
theorem forg_4 : forgB 4 = true := by kernel_rfl
set_option maxRecDepth 1000000 in
theorem qual_4 : qualB 4 = true := by kernel_rfl
end Go.Proofs.YtbjficjcgpgcbaaDoor
