/- Records of the reference of package foreign: a message of a new origin, the oldest record is dropped. -/
import Derived.Test.YtbjficjcgpgcbaaDoorGb
namespace Go.Proofs.YtbjficjcgpgcbaaDoor
open Go Go.RowKit SX Frm Frn
set_option linter.unusedVariables false
set_option maxRecDepth 1000000 in
theorem dropB_tfff : dropOk [true, false, false, false] = true := by kernel_rfl
set_option maxRecDepth 1000000 in
theorem dropB_tfft : dropOk [true, false, false, true] = true := by kernel_rfl
set_option maxRecDepth 1000000 in
theorem dropB_tftf : dropOk [true, false, true, false] = true := by kernel_rfl
set_option maxRecDepth 1000000 in
theorem dropB_tftt : dropOk [true, false, true, true] = true := by kernel_rfl
end Go.Proofs.YtbjficjcgpgcbaaDoor
