/- More rounds of the decision. -/
import Derived.Test.YtfcpmapfhgibpaaGreatDoorWp
set_option linter.unusedVariables false
set_option linter.unusedSimpArgs false
set_option maxRecDepth 1000000
namespace Go.Proofs.YtfcpmapfhgibpaaGreatDoor
namespace Dcd
open Go Go.RowKit SX
theorem decA_enter7 : decEnterA 7 = true := by kernel_rfl
theorem decA_rounds7 (g : Nat -> Value) : upTo 7 (fun i => decRoundA 7 i g) = true := by kernel_rfl
theorem decB_enter7 : decEnterB 7 = true := by kernel_rfl
theorem decB_rounds7 (g : Nat -> Value) : upTo 7 (fun i => decRoundB 7 i g) = true := by kernel_rfl
theorem decA_enter8 : decEnterA 8 = true := by kernel_rfl
theorem decA_rounds8 (g : Nat -> Value) : upTo 8 (fun i => decRoundA 8 i g) = true := by kernel_rfl
theorem decB_enter8 : decEnterB 8 = true := by kernel_rfl
theorem decB_rounds8 (g : Nat -> Value) : upTo 8 (fun i => decRoundB 8 i g) = true := by kernel_rfl
end Dcd
end Go.Proofs.YtfcpmapfhgibpaaGreatDoor
