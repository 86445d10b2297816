/- Records of package foreign: a record hears a message. -/
import Derived.Test.YtbjficjcgpgcbaaDoorFd
namespace Go.Proofs.YtbjficjcgpgcbaaDoor
open Go Go.RowKit SX Frm Frn
set_option linter.unusedVariables false
set_option maxRecDepth 1000000 in
theorem found_1_0 : upTo 7 (fun k => foundB 1 0 (k + 1)) = true := by kernel_rfl
set_option maxRecDepth 1000000 in
theorem found_2_0 : upTo 7 (fun k => foundB 2 0 (k + 1)) = true := by kernel_rfl
set_option maxRecDepth 1000000 in
theorem found_2_1 : upTo 7 (fun k => foundB 2 1 (k + 1)) = true := by kernel_rfl
set_option maxRecDepth 1000000 in
theorem found_3_0 : upTo 7 (fun k => foundB 3 0 (k + 1)) = true := by kernel_rfl
set_option maxRecDepth 1000000 in
theorem found_3_1 : upTo 7 (fun k => foundB 3 1 (k + 1)) = true := by kernel_rfl
set_option maxRecDepth 1000000 in
theorem found_3_2 : upTo 7 (fun k => foundB 3 2 (k + 1)) = true := by kernel_rfl
end Go.Proofs.YtbjficjcgpgcbaaDoor
