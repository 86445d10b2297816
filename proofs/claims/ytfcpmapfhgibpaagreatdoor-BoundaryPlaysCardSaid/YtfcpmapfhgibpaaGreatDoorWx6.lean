/- Kernel checks of Send, eight ports, more. -/
import Derived.Test.YtfcpmapfhgibpaaGreatDoorWu
import Derived.Test.YtfcpmapfhgibpaaGreatDoorWx4
import Derived.Test.YtfcpmapfhgibpaaGreatDoorWx5
set_option linter.unusedVariables false
set_option linter.unusedSimpArgs false
set_option maxRecDepth 1000000
namespace Go.Proofs.YtfcpmapfhgibpaaGreatDoor
section
theorem qP8_16 : qP 8 5 16 = true := by kernel_rfl
theorem qP8_17 : qP 8 5 17 = true := by kernel_rfl
theorem qP8_18 : qP 8 5 18 = true := by kernel_rfl
theorem qP8_19 : qP 8 5 19 = true := by kernel_rfl
theorem qP8_20 : qP 8 5 20 = true := by kernel_rfl
theorem qP8_21 : qP 8 5 21 = true := by kernel_rfl
theorem qP8_22 : qP 8 5 22 = true := by kernel_rfl
theorem qP8_23 : qP 8 5 23 = true := by kernel_rfl
theorem qP8_24 : qP 8 5 24 = true := by kernel_rfl
theorem qP8_25 : qP 8 5 25 = true := by kernel_rfl
theorem qP8_26 : qP 8 5 26 = true := by kernel_rfl
theorem qP8_27 : qP 8 5 27 = true := by kernel_rfl
theorem qP8_28 : qP 8 5 28 = true := by kernel_rfl
theorem qP8_29 : qP 8 5 29 = true := by kernel_rfl
theorem qP8_30 : qP 8 5 30 = true := by kernel_rfl
theorem qP8_31 : qP 8 5 31 = true := by kernel_rfl
end
section
open Go Go.RowKit SX Frm Frn
theorem gE6 : clSend.good 6 [] (clA 6) (clSend.m.tree callK (clA 6)) = true := qP_all (d := 2) (fun k hk => match k, hk with | 0, _ => qP6_0 | 1, _ => qP6_1 | 2, _ => qP6_2 | 3, _ => qP6_3 | k + 4, h => absurd h (by omega))
theorem gE7 : clSend.good 6 [] (clA 7) (clSend.m.tree callK (clA 7)) = true := qP_all (d := 3) (fun k hk => match k, hk with | 0, _ => qP7_0 | 1, _ => qP7_1 | 2, _ => qP7_2 | 3, _ => qP7_3 | 4, _ => qP7_4 | 5, _ => qP7_5 | 6, _ => qP7_6 | 7, _ => qP7_7 | k + 8, h => absurd h (by omega))
theorem gE8 : clSend.good 6 [] (clA 8) (clSend.m.tree callK (clA 8)) = true := qP_all (d := 5) (fun k hk => match k, hk with | 0, _ => qP8_0 | 1, _ => qP8_1 | 2, _ => qP8_2 | 3, _ => qP8_3 | 4, _ => qP8_4 | 5, _ => qP8_5 | 6, _ => qP8_6 | 7, _ => qP8_7 | 8, _ => qP8_8 | 9, _ => qP8_9 | 10, _ => qP8_10 | 11, _ => qP8_11 | 12, _ => qP8_12 | 13, _ => qP8_13 | 14, _ => qP8_14 | 15, _ => qP8_15 | 16, _ => qP8_16 | 17, _ => qP8_17 | 18, _ => qP8_18 | 19, _ => qP8_19 | 20, _ => qP8_20 | 21, _ => qP8_21 | 22, _ => qP8_22 | 23, _ => qP8_23 | 24, _ => qP8_24 | 25, _ => qP8_25 | 26, _ => qP8_26 | 27, _ => qP8_27 | 28, _ => qP8_28 | 29, _ => qP8_29 | 30, _ => qP8_30 | 31, _ => qP8_31 | k + 32, h => absurd h (by omega))
end
end Go.Proofs.YtfcpmapfhgibpaaGreatDoor
