/- Rounds of the decision. -/
import Derived.Test.YtfcpmapfhgibpaaDoorWp
namespace Go.Proofs.YtfcpmapfhgibpaaDoor.Dcd
open Go Go.RowKit SX
set_option linter.unusedVariables false
set_option maxRecDepth 1000000 in
theorem decA_enter1 : decEnterA 1 = true := by kernel_rfl
set_option maxRecDepth 1000000 in
theorem decA_rounds1 (g : Nat → Value) : upTo 1 (fun i => decRoundA 1 i g) = true := by kernel_rfl
set_option maxRecDepth 1000000 in
theorem decA_enter2 : decEnterA 2 = true := by kernel_rfl
set_option maxRecDepth 1000000 in
theorem decA_rounds2 (g : Nat → Value) : upTo 2 (fun i => decRoundA 2 i g) = true := by kernel_rfl
set_option maxRecDepth 1000000 in
theorem decA_enter3 : decEnterA 3 = true := by kernel_rfl
set_option maxRecDepth 1000000 in
theorem decA_rounds3 (g : Nat → Value) : upTo 3 (fun i => decRoundA 3 i g) = true := by kernel_rfl
end Go.Proofs.YtfcpmapfhgibpaaDoor.Dcd
namespace Go.Proofs.YtfcpmapfhgibpaaDoor.Dcd
open Go Go.RowKit SX
set_option linter.unusedVariables false
set_option maxRecDepth 1000000 in
theorem decA_enter4 : decEnterA 4 = true := by kernel_rfl
set_option maxRecDepth 1000000 in
theorem decA_rounds4 (g : Nat → Value) : upTo 4 (fun i => decRoundA 4 i g) = true := by kernel_rfl
set_option maxRecDepth 1000000 in
theorem decA_enter5 : decEnterA 5 = true := by kernel_rfl
set_option maxRecDepth 1000000 in
theorem decA_rounds5 (g : Nat → Value) : upTo 5 (fun i => decRoundA 5 i g) = true := by kernel_rfl
end Go.Proofs.YtfcpmapfhgibpaaDoor.Dcd
namespace Go.Proofs.YtfcpmapfhgibpaaDoor.Dcd
open Go Go.RowKit SX
set_option linter.unusedVariables false
set_option maxRecDepth 1000000 in
theorem decA_enter6 : decEnterA 6 = true := by kernel_rfl
set_option maxRecDepth 1000000 in
theorem decA_rounds6 (g : Nat → Value) : upTo 6 (fun i => decRoundA 6 i g) = true := by kernel_rfl
end Go.Proofs.YtfcpmapfhgibpaaDoor.Dcd
