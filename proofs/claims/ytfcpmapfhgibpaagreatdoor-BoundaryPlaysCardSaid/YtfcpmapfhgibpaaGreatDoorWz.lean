/- Both clocks: the last of Send. -/
import Derived.Test.YtfcpmapfhgibpaaGreatDoorWu
import Derived.Test.YtfcpmapfhgibpaaGreatDoorWy6
import Derived.Test.YtfcpmapfhgibpaaGreatDoorWy7
import Derived.Test.YtfcpmapfhgibpaaGreatDoorWy8
import Derived.Test.YtfcpmapfhgibpaaGreatDoorWy9
set_option linter.unusedVariables false
set_option linter.unusedSimpArgs false
set_option maxRecDepth 1000000
namespace Go.Proofs.YtfcpmapfhgibpaaGreatDoor
section
theorem keP8_24 : keP 8 5 24 = true := by kernel_rfl
theorem keP8_25 : keP 8 5 25 = true := by kernel_rfl
theorem keP8_26 : keP 8 5 26 = true := by kernel_rfl
theorem keP8_27 : keP 8 5 27 = true := by kernel_rfl
theorem keP8_28 : keP 8 5 28 = true := by kernel_rfl
theorem keP8_29 : keP 8 5 29 = true := by kernel_rfl
theorem keP8_30 : keP 8 5 30 = true := by kernel_rfl
theorem keP8_31 : keP 8 5 31 = true := by kernel_rfl
end
section
open Go Go.RowKit SX Frm Frn
theorem hG1 : rcSend.good 6 [] (clAR 1) (sndTR 1) = true := kgP_all (d := 0) (fun k hk => match k, hk with | 0, _ => kgP1_0 | k + 1, h => absurd h (by omega))
theorem hE1 : allC (sndS 1) [] (sndTP 1) = true := keP_all (d := 0) (fun k hk => match k, hk with | 0, _ => keP1_0 | k + 1, h => absurd h (by omega))
theorem hG2 : rcSend.good 6 [] (clAR 2) (sndTR 2) = true := kgP_all (d := 0) (fun k hk => match k, hk with | 0, _ => kgP2_0 | k + 1, h => absurd h (by omega))
theorem hE2 : allC (sndS 2) [] (sndTP 2) = true := keP_all (d := 0) (fun k hk => match k, hk with | 0, _ => keP2_0 | k + 1, h => absurd h (by omega))
theorem hG3 : rcSend.good 6 [] (clAR 3) (sndTR 3) = true := kgP_all (d := 0) (fun k hk => match k, hk with | 0, _ => kgP3_0 | k + 1, h => absurd h (by omega))
theorem hE3 : allC (sndS 3) [] (sndTP 3) = true := keP_all (d := 0) (fun k hk => match k, hk with | 0, _ => keP3_0 | k + 1, h => absurd h (by omega))
theorem hG4 : rcSend.good 6 [] (clAR 4) (sndTR 4) = true := kgP_all (d := 0) (fun k hk => match k, hk with | 0, _ => kgP4_0 | k + 1, h => absurd h (by omega))
theorem hE4 : allC (sndS 4) [] (sndTP 4) = true := keP_all (d := 0) (fun k hk => match k, hk with | 0, _ => keP4_0 | k + 1, h => absurd h (by omega))
theorem hG5 : rcSend.good 6 [] (clAR 5) (sndTR 5) = true := kgP_all (d := 0) (fun k hk => match k, hk with | 0, _ => kgP5_0 | k + 1, h => absurd h (by omega))
theorem hE5 : allC (sndS 5) [] (sndTP 5) = true := keP_all (d := 0) (fun k hk => match k, hk with | 0, _ => keP5_0 | k + 1, h => absurd h (by omega))
theorem hG6 : rcSend.good 6 [] (clAR 6) (sndTR 6) = true := kgP_all (d := 2) (fun k hk => match k, hk with | 0, _ => kgP6_0 | 1, _ => kgP6_1 | 2, _ => kgP6_2 | 3, _ => kgP6_3 | k + 4, h => absurd h (by omega))
theorem hE6 : allC (sndS 6) [] (sndTP 6) = true := keP_all (d := 3) (fun k hk => match k, hk with | 0, _ => keP6_0 | 1, _ => keP6_1 | 2, _ => keP6_2 | 3, _ => keP6_3 | 4, _ => keP6_4 | 5, _ => keP6_5 | 6, _ => keP6_6 | 7, _ => keP6_7 | k + 8, h => absurd h (by omega))
theorem hG7 : rcSend.good 6 [] (clAR 7) (sndTR 7) = true := kgP_all (d := 3) (fun k hk => match k, hk with | 0, _ => kgP7_0 | 1, _ => kgP7_1 | 2, _ => kgP7_2 | 3, _ => kgP7_3 | 4, _ => kgP7_4 | 5, _ => kgP7_5 | 6, _ => kgP7_6 | 7, _ => kgP7_7 | k + 8, h => absurd h (by omega))
theorem hE7 : allC (sndS 7) [] (sndTP 7) = true := keP_all (d := 4) (fun k hk => match k, hk with | 0, _ => keP7_0 | 1, _ => keP7_1 | 2, _ => keP7_2 | 3, _ => keP7_3 | 4, _ => keP7_4 | 5, _ => keP7_5 | 6, _ => keP7_6 | 7, _ => keP7_7 | 8, _ => keP7_8 | 9, _ => keP7_9 | 10, _ => keP7_10 | 11, _ => keP7_11 | 12, _ => keP7_12 | 13, _ => keP7_13 | 14, _ => keP7_14 | 15, _ => keP7_15 | k + 16, h => absurd h (by omega))
theorem hG8 : rcSend.good 6 [] (clAR 8) (sndTR 8) = true := kgP_all (d := 5) (fun k hk => match k, hk with | 0, _ => kgP8_0 | 1, _ => kgP8_1 | 2, _ => kgP8_2 | 3, _ => kgP8_3 | 4, _ => kgP8_4 | 5, _ => kgP8_5 | 6, _ => kgP8_6 | 7, _ => kgP8_7 | 8, _ => kgP8_8 | 9, _ => kgP8_9 | 10, _ => kgP8_10 | 11, _ => kgP8_11 | 12, _ => kgP8_12 | 13, _ => kgP8_13 | 14, _ => kgP8_14 | 15, _ => kgP8_15 | 16, _ => kgP8_16 | 17, _ => kgP8_17 | 18, _ => kgP8_18 | 19, _ => kgP8_19 | 20, _ => kgP8_20 | 21, _ => kgP8_21 | 22, _ => kgP8_22 | 23, _ => kgP8_23 | 24, _ => kgP8_24 | 25, _ => kgP8_25 | 26, _ => kgP8_26 | 27, _ => kgP8_27 | 28, _ => kgP8_28 | 29, _ => kgP8_29 | 30, _ => kgP8_30 | 31, _ => kgP8_31 | k + 32, h => absurd h (by omega))
theorem hE8 : allC (sndS 8) [] (sndTP 8) = true := keP_all (d := 5) (fun k hk => match k, hk with | 0, _ => keP8_0 | 1, _ => keP8_1 | 2, _ => keP8_2 | 3, _ => keP8_3 | 4, _ => keP8_4 | 5, _ => keP8_5 | 6, _ => keP8_6 | 7, _ => keP8_7 | 8, _ => keP8_8 | 9, _ => keP8_9 | 10, _ => keP8_10 | 11, _ => keP8_11 | 12, _ => keP8_12 | 13, _ => keP8_13 | 14, _ => keP8_14 | 15, _ => keP8_15 | 16, _ => keP8_16 | 17, _ => keP8_17 | 18, _ => keP8_18 | 19, _ => keP8_19 | 20, _ => keP8_20 | 21, _ => keP8_21 | 22, _ => keP8_22 | 23, _ => keP8_23 | 24, _ => keP8_24 | 25, _ => keP8_25 | 26, _ => keP8_26 | 27, _ => keP8_27 | 28, _ => keP8_28 | 29, _ => keP8_29 | 30, _ => keP8_30 | 31, _ => keP8_31 | k + 32, h => absurd h (by omega))
end
end Go.Proofs.YtfcpmapfhgibpaaGreatDoor
