/- Records of the reference of package foreign: a message of a new origin, the oldest record is dropped. -/
import Derived.Test.YtbjficjcgpgcbaaDoorGb
namespace Go.Proofs.YtbjficjcgpgcbaaDoor
open Go Go.RowKit SX Frm Frn
set_option linter.unusedVariables false
set_option maxRecDepth 1000000 in
theorem dropB_ttff : dropOk [true, true, false, false] = true := by kernel_rfl
set_option maxRecDepth 1000000 in
theorem dropB_ttft : dropOk [true, true, false, true] = true := by kernel_rfl
set_option maxRecDepth 1000000 in
theorem dropB_tttf : dropOk [true, true, true, false] = true := by kernel_rfl
set_option maxRecDepth 1000000 in
theorem dropB_tttt : dropOk [true, true, true, true] = true := by kernel_rfl
end Go.Proofs.YtbjficjcgpgcbaaDoor
