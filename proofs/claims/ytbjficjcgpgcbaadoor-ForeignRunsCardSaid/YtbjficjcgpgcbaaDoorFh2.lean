/- Records of package foreign: a record hears a message. -/
import Derived.Test.YtbjficjcgpgcbaaDoorFd
namespace Go.Proofs.YtbjficjcgpgcbaaDoor
open Go Go.RowKit SX Frm Frn
set_option linter.unusedVariables false
set_option maxRecDepth 1000000 in
theorem found_5_0 : upTo 7 (fun k => foundB 5 0 (k + 1)) = true := by kernel_rfl
set_option maxRecDepth 1000000 in
theorem found_5_1 : upTo 7 (fun k => foundB 5 1 (k + 1)) = true := by kernel_rfl
end Go.Proofs.YtbjficjcgpgcbaaDoor
