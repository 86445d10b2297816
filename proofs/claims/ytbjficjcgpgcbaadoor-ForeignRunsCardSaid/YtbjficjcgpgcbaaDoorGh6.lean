/- Records of the reference of package foreign: a message of a new origin, the oldest record is dropped. -/
import Derived.Test.YtbjficjcgpgcbaaDoorGb
namespace Go.Proofs.YtbjficjcgpgcbaaDoor
open Go Go.RowKit SX Frm Frn
set_option linter.unusedVariables false
set_option maxRecDepth 1000000 in
theorem dropB_ffff : dropOk [false, false, false, false] = true := by kernel_rfl
set_option maxRecDepth 1000000 in
theorem dropB_ffft : dropOk [false, false, false, true] = true := by kernel_rfl
set_option maxRecDepth 1000000 in
theorem dropB_fftf : dropOk [false, false, true, false] = true := by kernel_rfl
set_option maxRecDepth 1000000 in
theorem dropB_fftt : dropOk [false, false, true, true] = true := by kernel_rfl
end Go.Proofs.YtbjficjcgpgcbaaDoor
