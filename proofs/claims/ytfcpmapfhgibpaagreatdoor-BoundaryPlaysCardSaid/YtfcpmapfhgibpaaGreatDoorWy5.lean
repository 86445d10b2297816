/- Both clocks: kernel checks of Response, Request, Offset. -/
import Derived.Test.YtfcpmapfhgibpaaGreatDoorWu
import Derived.Test.YtfcpmapfhgibpaaGreatDoorWy1
import Derived.Test.YtfcpmapfhgibpaaGreatDoorWy2
import Derived.Test.YtfcpmapfhgibpaaGreatDoorWy3
import Derived.Test.YtfcpmapfhgibpaaGreatDoorWy4
set_option linter.unusedVariables false
set_option linter.unusedSimpArgs false
set_option maxRecDepth 1000000
namespace Go.Proofs.YtfcpmapfhgibpaaGreatDoor
section
theorem hgP1 : tG rcResp rulesSync 1 = true := by kernel_rfl
theorem hgP2 : tG rcResp rulesSync 2 = true := by kernel_rfl
theorem hgP3 : tG rcResp rulesSync 3 = true := by kernel_rfl
theorem hgP4 : tG rcResp rulesSync 4 = true := by kernel_rfl
theorem hgP5 : tG rcResp rulesSync 5 = true := by kernel_rfl
theorem hgP6 : tG rcResp rulesSync 6 = true := by kernel_rfl
theorem hgP7 : tG rcResp rulesSync 7 = true := by kernel_rfl
theorem hgP8 : tG rcResp rulesSync 8 = true := by kernel_rfl
theorem hsP1_0 : tS clResp rcResp 1 0 0 = true := by kernel_rfl
theorem hsP2_0 : tS clResp rcResp 2 0 0 = true := by kernel_rfl
theorem hsP3_0 : tS clResp rcResp 3 0 0 = true := by kernel_rfl
theorem hsP4_0 : tS clResp rcResp 4 0 0 = true := by kernel_rfl
theorem hsP5_0 : tS clResp rcResp 5 0 0 = true := by kernel_rfl
theorem hsP6_0 : tS clResp rcResp 6 0 0 = true := by kernel_rfl
theorem hsP7_0 : tS clResp rcResp 7 0 0 = true := by kernel_rfl
theorem hsP8_0 : tS clResp rcResp 8 0 0 = true := by kernel_rfl
theorem hgQ1 : tG rcReq noR 1 = true := by kernel_rfl
theorem hgQ2 : tG rcReq noR 2 = true := by kernel_rfl
theorem hgQ3 : tG rcReq noR 3 = true := by kernel_rfl
theorem hgQ4 : tG rcReq noR 4 = true := by kernel_rfl
theorem hgQ5 : tG rcReq noR 5 = true := by kernel_rfl
theorem hgQ6 : tG rcReq noR 6 = true := by kernel_rfl
theorem hgQ7 : tG rcReq noR 7 = true := by kernel_rfl
theorem hgQ8 : tG rcReq noR 8 = true := by kernel_rfl
theorem hsQ1_0 : tS clReq rcReq 1 0 0 = true := by kernel_rfl
theorem hsQ2_0 : tS clReq rcReq 2 0 0 = true := by kernel_rfl
theorem hsQ3_0 : tS clReq rcReq 3 0 0 = true := by kernel_rfl
theorem hsQ4_0 : tS clReq rcReq 4 0 0 = true := by kernel_rfl
theorem hsQ5_0 : tS clReq rcReq 5 0 0 = true := by kernel_rfl
theorem hsQ6_0 : tS clReq rcReq 6 0 0 = true := by kernel_rfl
theorem hsQ7_0 : tS clReq rcReq 7 0 0 = true := by kernel_rfl
theorem hsQ8_0 : tS clReq rcReq 8 0 0 = true := by kernel_rfl
theorem hgO1 : tG rcOff noR 1 = true := by kernel_rfl
theorem hgO2 : tG rcOff noR 2 = true := by kernel_rfl
theorem hgO3 : tG rcOff noR 3 = true := by kernel_rfl
theorem hgO4 : tG rcOff noR 4 = true := by kernel_rfl
theorem hgO5 : tG rcOff noR 5 = true := by kernel_rfl
theorem hgO6 : tG rcOff noR 6 = true := by kernel_rfl
theorem hgO7 : tG rcOff noR 7 = true := by kernel_rfl
theorem hgO8 : tG rcOff noR 8 = true := by kernel_rfl
theorem hsO1_0 : tS clOff rcOff 1 0 0 = true := by kernel_rfl
theorem hsO2_0 : tS clOff rcOff 2 0 0 = true := by kernel_rfl
theorem hsO3_0 : tS clOff rcOff 3 0 0 = true := by kernel_rfl
theorem hsO4_0 : tS clOff rcOff 4 0 0 = true := by kernel_rfl
theorem hsO5_0 : tS clOff rcOff 5 0 0 = true := by kernel_rfl
theorem hsO6_0 : tS clOff rcOff 6 0 0 = true := by kernel_rfl
theorem hsO7_0 : tS clOff rcOff 7 0 0 = true := by kernel_rfl
theorem hsO8_0 : tS clOff rcOff 8 0 0 = true := by kernel_rfl
end
section
open Go Go.RowKit SX Frm Frn
theorem hA1 : twinB 1 (rulesAnnR 1) clAnn rcAnn = true := tS_all (d := 0) hgA1 (fun k hk => match k, hk with | 0, _ => hsA1_0 | k + 1, h => absurd h (by omega))
theorem hA2 : twinB 2 (rulesAnnR 2) clAnn rcAnn = true := tS_all (d := 0) hgA2 (fun k hk => match k, hk with | 0, _ => hsA2_0 | k + 1, h => absurd h (by omega))
theorem hA3 : twinB 3 (rulesAnnR 3) clAnn rcAnn = true := tS_all (d := 0) hgA3 (fun k hk => match k, hk with | 0, _ => hsA3_0 | k + 1, h => absurd h (by omega))
theorem hA4 : twinB 4 (rulesAnnR 4) clAnn rcAnn = true := tS_all (d := 0) hgA4 (fun k hk => match k, hk with | 0, _ => hsA4_0 | k + 1, h => absurd h (by omega))
theorem hA5 : twinB 5 (rulesAnnR 5) clAnn rcAnn = true := tS_all (d := 0) hgA5 (fun k hk => match k, hk with | 0, _ => hsA5_0 | k + 1, h => absurd h (by omega))
theorem hA6 : twinB 6 (rulesAnnR 6) clAnn rcAnn = true := tS_all (d := 0) hgA6 (fun k hk => match k, hk with | 0, _ => hsA6_0 | k + 1, h => absurd h (by omega))
theorem hA7 : twinB 7 (rulesAnnR 7) clAnn rcAnn = true := tS_all (d := 3) hgA7 (fun k hk => match k, hk with | 0, _ => hsA7_0 | 1, _ => hsA7_1 | 2, _ => hsA7_2 | 3, _ => hsA7_3 | 4, _ => hsA7_4 | 5, _ => hsA7_5 | 6, _ => hsA7_6 | 7, _ => hsA7_7 | k + 8, h => absurd h (by omega))
theorem hA8 : twinB 8 (rulesAnnR 8) clAnn rcAnn = true := tS_all (d := 4) hgA8 (fun k hk => match k, hk with | 0, _ => hsA8_0 | 1, _ => hsA8_1 | 2, _ => hsA8_2 | 3, _ => hsA8_3 | 4, _ => hsA8_4 | 5, _ => hsA8_5 | 6, _ => hsA8_6 | 7, _ => hsA8_7 | 8, _ => hsA8_8 | 9, _ => hsA8_9 | 10, _ => hsA8_10 | 11, _ => hsA8_11 | 12, _ => hsA8_12 | 13, _ => hsA8_13 | 14, _ => hsA8_14 | 15, _ => hsA8_15 | k + 16, h => absurd h (by omega))
theorem hS1 : twinB 1 (rulesSync 1) clSync rcSync = true := tS_all (d := 0) hgS1 (fun k hk => match k, hk with | 0, _ => hsS1_0 | k + 1, h => absurd h (by omega))
theorem hS2 : twinB 2 (rulesSync 2) clSync rcSync = true := tS_all (d := 0) hgS2 (fun k hk => match k, hk with | 0, _ => hsS2_0 | k + 1, h => absurd h (by omega))
theorem hS3 : twinB 3 (rulesSync 3) clSync rcSync = true := tS_all (d := 0) hgS3 (fun k hk => match k, hk with | 0, _ => hsS3_0 | k + 1, h => absurd h (by omega))
theorem hS4 : twinB 4 (rulesSync 4) clSync rcSync = true := tS_all (d := 0) hgS4 (fun k hk => match k, hk with | 0, _ => hsS4_0 | k + 1, h => absurd h (by omega))
theorem hS5 : twinB 5 (rulesSync 5) clSync rcSync = true := tS_all (d := 0) hgS5 (fun k hk => match k, hk with | 0, _ => hsS5_0 | k + 1, h => absurd h (by omega))
theorem hS6 : twinB 6 (rulesSync 6) clSync rcSync = true := tS_all (d := 3) hgS6 (fun k hk => match k, hk with | 0, _ => hsS6_0 | 1, _ => hsS6_1 | 2, _ => hsS6_2 | 3, _ => hsS6_3 | 4, _ => hsS6_4 | 5, _ => hsS6_5 | 6, _ => hsS6_6 | 7, _ => hsS6_7 | k + 8, h => absurd h (by omega))
theorem hS7 : twinB 7 (rulesSync 7) clSync rcSync = true := tS_all (d := 4) hgS7 (fun k hk => match k, hk with | 0, _ => hsS7_0 | 1, _ => hsS7_1 | 2, _ => hsS7_2 | 3, _ => hsS7_3 | 4, _ => hsS7_4 | 5, _ => hsS7_5 | 6, _ => hsS7_6 | 7, _ => hsS7_7 | 8, _ => hsS7_8 | 9, _ => hsS7_9 | 10, _ => hsS7_10 | 11, _ => hsS7_11 | 12, _ => hsS7_12 | 13, _ => hsS7_13 | 14, _ => hsS7_14 | 15, _ => hsS7_15 | k + 16, h => absurd h (by omega))
theorem hS8 : twinB 8 (rulesSync 8) clSync rcSync = true := tS_all (d := 5) hgS8 (fun k hk => match k, hk with | 0, _ => hsS8_0 | 1, _ => hsS8_1 | 2, _ => hsS8_2 | 3, _ => hsS8_3 | 4, _ => hsS8_4 | 5, _ => hsS8_5 | 6, _ => hsS8_6 | 7, _ => hsS8_7 | 8, _ => hsS8_8 | 9, _ => hsS8_9 | 10, _ => hsS8_10 | 11, _ => hsS8_11 | 12, _ => hsS8_12 | 13, _ => hsS8_13 | 14, _ => hsS8_14 | 15, _ => hsS8_15 | 16, _ => hsS8_16 | 17, _ => hsS8_17 | 18, _ => hsS8_18 | 19, _ => hsS8_19 | 20, _ => hsS8_20 | 21, _ => hsS8_21 | 22, _ => hsS8_22 | 23, _ => hsS8_23 | 24, _ => hsS8_24 | 25, _ => hsS8_25 | 26, _ => hsS8_26 | 27, _ => hsS8_27 | 28, _ => hsS8_28 | 29, _ => hsS8_29 | 30, _ => hsS8_30 | 31, _ => hsS8_31 | k + 32, h => absurd h (by omega))
theorem hP1 : twinB 1 (rulesSync 1) clResp rcResp = true := tS_all (d := 0) hgP1 (fun k hk => match k, hk with | 0, _ => hsP1_0 | k + 1, h => absurd h (by omega))
theorem hP2 : twinB 2 (rulesSync 2) clResp rcResp = true := tS_all (d := 0) hgP2 (fun k hk => match k, hk with | 0, _ => hsP2_0 | k + 1, h => absurd h (by omega))
theorem hP3 : twinB 3 (rulesSync 3) clResp rcResp = true := tS_all (d := 0) hgP3 (fun k hk => match k, hk with | 0, _ => hsP3_0 | k + 1, h => absurd h (by omega))
theorem hP4 : twinB 4 (rulesSync 4) clResp rcResp = true := tS_all (d := 0) hgP4 (fun k hk => match k, hk with | 0, _ => hsP4_0 | k + 1, h => absurd h (by omega))
theorem hP5 : twinB 5 (rulesSync 5) clResp rcResp = true := tS_all (d := 0) hgP5 (fun k hk => match k, hk with | 0, _ => hsP5_0 | k + 1, h => absurd h (by omega))
theorem hP6 : twinB 6 (rulesSync 6) clResp rcResp = true := tS_all (d := 0) hgP6 (fun k hk => match k, hk with | 0, _ => hsP6_0 | k + 1, h => absurd h (by omega))
theorem hP7 : twinB 7 (rulesSync 7) clResp rcResp = true := tS_all (d := 0) hgP7 (fun k hk => match k, hk with | 0, _ => hsP7_0 | k + 1, h => absurd h (by omega))
theorem hP8 : twinB 8 (rulesSync 8) clResp rcResp = true := tS_all (d := 0) hgP8 (fun k hk => match k, hk with | 0, _ => hsP8_0 | k + 1, h => absurd h (by omega))
theorem hQ1 : twinB 1 (noR 1) clReq rcReq = true := tS_all (d := 0) hgQ1 (fun k hk => match k, hk with | 0, _ => hsQ1_0 | k + 1, h => absurd h (by omega))
theorem hQ2 : twinB 2 (noR 2) clReq rcReq = true := tS_all (d := 0) hgQ2 (fun k hk => match k, hk with | 0, _ => hsQ2_0 | k + 1, h => absurd h (by omega))
theorem hQ3 : twinB 3 (noR 3) clReq rcReq = true := tS_all (d := 0) hgQ3 (fun k hk => match k, hk with | 0, _ => hsQ3_0 | k + 1, h => absurd h (by omega))
theorem hQ4 : twinB 4 (noR 4) clReq rcReq = true := tS_all (d := 0) hgQ4 (fun k hk => match k, hk with | 0, _ => hsQ4_0 | k + 1, h => absurd h (by omega))
theorem hQ5 : twinB 5 (noR 5) clReq rcReq = true := tS_all (d := 0) hgQ5 (fun k hk => match k, hk with | 0, _ => hsQ5_0 | k + 1, h => absurd h (by omega))
theorem hQ6 : twinB 6 (noR 6) clReq rcReq = true := tS_all (d := 0) hgQ6 (fun k hk => match k, hk with | 0, _ => hsQ6_0 | k + 1, h => absurd h (by omega))
theorem hQ7 : twinB 7 (noR 7) clReq rcReq = true := tS_all (d := 0) hgQ7 (fun k hk => match k, hk with | 0, _ => hsQ7_0 | k + 1, h => absurd h (by omega))
theorem hQ8 : twinB 8 (noR 8) clReq rcReq = true := tS_all (d := 0) hgQ8 (fun k hk => match k, hk with | 0, _ => hsQ8_0 | k + 1, h => absurd h (by omega))
theorem hO1 : twinB 1 (noR 1) clOff rcOff = true := tS_all (d := 0) hgO1 (fun k hk => match k, hk with | 0, _ => hsO1_0 | k + 1, h => absurd h (by omega))
theorem hO2 : twinB 2 (noR 2) clOff rcOff = true := tS_all (d := 0) hgO2 (fun k hk => match k, hk with | 0, _ => hsO2_0 | k + 1, h => absurd h (by omega))
theorem hO3 : twinB 3 (noR 3) clOff rcOff = true := tS_all (d := 0) hgO3 (fun k hk => match k, hk with | 0, _ => hsO3_0 | k + 1, h => absurd h (by omega))
theorem hO4 : twinB 4 (noR 4) clOff rcOff = true := tS_all (d := 0) hgO4 (fun k hk => match k, hk with | 0, _ => hsO4_0 | k + 1, h => absurd h (by omega))
theorem hO5 : twinB 5 (noR 5) clOff rcOff = true := tS_all (d := 0) hgO5 (fun k hk => match k, hk with | 0, _ => hsO5_0 | k + 1, h => absurd h (by omega))
theorem hO6 : twinB 6 (noR 6) clOff rcOff = true := tS_all (d := 0) hgO6 (fun k hk => match k, hk with | 0, _ => hsO6_0 | k + 1, h => absurd h (by omega))
theorem hO7 : twinB 7 (noR 7) clOff rcOff = true := tS_all (d := 0) hgO7 (fun k hk => match k, hk with | 0, _ => hsO7_0 | k + 1, h => absurd h (by omega))
theorem hO8 : twinB 8 (noR 8) clOff rcOff = true := tS_all (d := 0) hgO8 (fun k hk => match k, hk with | 0, _ => hsO8_0 | k + 1, h => absurd h (by omega))
end
end Go.Proofs.YtfcpmapfhgibpaaGreatDoor
