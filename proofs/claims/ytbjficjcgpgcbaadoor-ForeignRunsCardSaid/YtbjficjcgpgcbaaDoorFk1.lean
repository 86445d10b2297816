/- Records of package foreign: Forget and Qualified by the number of records. -/
import Derived.Test.YtbjficjcgpgcbaaDoorFk
namespace Go.Proofs.YtbjficjcgpgcbaaDoor
open Go Go.RowKit SX Frm Frn
set_option linter.unusedVariables false
set_option maxRecDepth 1000000 in
theorem forg_5 : forgB 5 = true := by kernel_rfl
set_option maxRecDepth 1000000 in
theorem qual_5 : qualB 5 = true := by kernel_rfl
end Go.Proofs.YtbjficjcgpgcbaaDoor
