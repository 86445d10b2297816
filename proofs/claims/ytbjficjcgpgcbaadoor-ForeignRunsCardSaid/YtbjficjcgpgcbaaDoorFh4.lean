/- Records of package foreign: a record hears a message. -/
import Derived.Test.YtbjficjcgpgcbaaDoorFd
namespace Go.Proofs.YtbjficjcgpgcbaaDoor
open Go Go.RowKit SX Frm Frn
set_option linter.unusedVariables false
set_option maxRecDepth 1000000 in
theorem found_5_4 : upTo 7 (fun k => foundB 5 4 (k + 1)) = true := by kernel_rfl
end Go.Proofs.YtbjficjcgpgcbaaDoor
