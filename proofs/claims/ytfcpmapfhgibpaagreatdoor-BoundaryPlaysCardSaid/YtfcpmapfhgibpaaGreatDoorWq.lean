/- Rounds of the decision. -/
import Derived.Test.YtfcpmapfhgibpaaGreatDoorWp
set_option linter.unusedVariables false
set_option linter.unusedSimpArgs false
set_option maxRecDepth 1000000
namespace Go.Proofs.YtfcpmapfhgibpaaGreatDoor
namespace Dcd
open Go Go.RowKit SX
theorem decA_enter1 : decEnterA 1 = true := by kernel_rfl
theorem decA_rounds1 (g : Nat -> Value) : upTo 1 (fun i => decRoundA 1 i g) = true := by kernel_rfl
theorem decB_enter1 : decEnterB 1 = true := by kernel_rfl
theorem decB_rounds1 (g : Nat -> Value) : upTo 1 (fun i => decRoundB 1 i g) = true := by kernel_rfl
theorem decA_enter2 : decEnterA 2 = true := by kernel_rfl
theorem decA_rounds2 (g : Nat -> Value) : upTo 2 (fun i => decRoundA 2 i g) = true := by kernel_rfl
theorem decB_enter2 : decEnterB 2 = true := by kernel_rfl
theorem decB_rounds2 (g : Nat -> Value) : upTo 2 (fun i => decRoundB 2 i g) = true := by kernel_rfl
theorem decA_enter3 : decEnterA 3 = true := by kernel_rfl
theorem decA_rounds3 (g : Nat -> Value) : upTo 3 (fun i => decRoundA 3 i g) = true := by kernel_rfl
theorem decB_enter3 : decEnterB 3 = true := by kernel_rfl
theorem decB_rounds3 (g : Nat -> Value) : upTo 3 (fun i => decRoundB 3 i g) = true := by kernel_rfl
theorem decA_enter4 : decEnterA 4 = true := by kernel_rfl
theorem decA_rounds4 (g : Nat -> Value) : upTo 4 (fun i => decRoundA 4 i g) = true := by kernel_rfl
theorem decB_enter4 : decEnterB 4 = true := by kernel_rfl
theorem decB_rounds4 (g : Nat -> Value) : upTo 4 (fun i => decRoundB 4 i g) = true := by kernel_rfl
theorem decA_enter5 : decEnterA 5 = true := by kernel_rfl
theorem decA_rounds5 (g : Nat -> Value) : upTo 5 (fun i => decRoundA 5 i g) = true := by kernel_rfl
theorem decB_enter5 : decEnterB 5 = true := by kernel_rfl
theorem decB_rounds5 (g : Nat -> Value) : upTo 5 (fun i => decRoundB 5 i g) = true := by kernel_rfl
theorem decA_enter6 : decEnterA 6 = true := by kernel_rfl
theorem decA_rounds6 (g : Nat -> Value) : upTo 6 (fun i => decRoundA 6 i g) = true := by kernel_rfl
theorem decB_enter6 : decEnterB 6 = true := by kernel_rfl
theorem decB_rounds6 (g : Nat -> Value) : upTo 6 (fun i => decRoundB 6 i g) = true := by kernel_rfl
end Dcd
end Go.Proofs.YtfcpmapfhgibpaaGreatDoor
