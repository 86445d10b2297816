/- More rounds of the decision. -/
import Derived.Test.YtfcpmapfhgibpaaDoorWp
namespace Go.Proofs.YtfcpmapfhgibpaaDoor.Dcd
open Go Go.RowKit SX
set_option linter.unusedVariables false
set_option maxRecDepth 1000000 in
theorem decA_enter7 : decEnterA 7 = true := by kernel_rfl
set_option maxRecDepth 1000000 in
theorem decA_rounds7 (g : Nat → Value) : upTo 7 (fun i => decRoundA 7 i g) = true := by kernel_rfl
end Go.Proofs.YtfcpmapfhgibpaaDoor.Dcd
namespace Go.Proofs.YtfcpmapfhgibpaaDoor.Dcd
open Go Go.RowKit SX
set_option linter.unusedVariables false
set_option maxRecDepth 1000000 in
theorem decA_enter8 : decEnterA 8 = true := by kernel_rfl
set_option maxRecDepth 1000000 in
theorem decA_rounds8 (g : Nat → Value) : upTo 8 (fun i => decRoundA 8 i g) = true := by kernel_rfl
end Go.Proofs.YtfcpmapfhgibpaaDoor.Dcd
