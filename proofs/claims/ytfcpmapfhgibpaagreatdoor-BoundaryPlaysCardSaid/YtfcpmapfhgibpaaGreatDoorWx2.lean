/- Kernel checks of Sync, Response, Request, Offset. -/
import Derived.Test.YtfcpmapfhgibpaaGreatDoorWu
set_option maxRecDepth 1000000
namespace Go.Proofs.YtfcpmapfhgibpaaGreatDoor
open Go Go.RowKit SX Frm Frn
theorem gS1 : clSync.good 6 (rulesSync 1) (clA 1) (clSync.tree callK (clA 1)) = true := by kernel_rfl
theorem gS2 : clSync.good 6 (rulesSync 2) (clA 2) (clSync.tree callK (clA 2)) = true := by kernel_rfl
theorem gS3 : clSync.good 6 (rulesSync 3) (clA 3) (clSync.tree callK (clA 3)) = true := by kernel_rfl
theorem gS4 : clSync.good 6 (rulesSync 4) (clA 4) (clSync.tree callK (clA 4)) = true := by kernel_rfl
theorem gS5 : clSync.good 6 (rulesSync 5) (clA 5) (clSync.tree callK (clA 5)) = true := by kernel_rfl
theorem gS6 : clSync.good 6 (rulesSync 6) (clA 6) (clSync.tree callK (clA 6)) = true := by kernel_rfl
theorem gS7 : clSync.good 6 (rulesSync 7) (clA 7) (clSync.tree callK (clA 7)) = true := by kernel_rfl
theorem gS8 : clSync.good 6 (rulesSync 8) (clA 8) (clSync.tree callK (clA 8)) = true := by kernel_rfl
theorem gP1 : clResp.good 6 (rulesSync 1) (clA 1) (clResp.tree callK (clA 1)) = true := by kernel_rfl
theorem gP2 : clResp.good 6 (rulesSync 2) (clA 2) (clResp.tree callK (clA 2)) = true := by kernel_rfl
theorem gP3 : clResp.good 6 (rulesSync 3) (clA 3) (clResp.tree callK (clA 3)) = true := by kernel_rfl
theorem gP4 : clResp.good 6 (rulesSync 4) (clA 4) (clResp.tree callK (clA 4)) = true := by kernel_rfl
theorem gP5 : clResp.good 6 (rulesSync 5) (clA 5) (clResp.tree callK (clA 5)) = true := by kernel_rfl
theorem gP6 : clResp.good 6 (rulesSync 6) (clA 6) (clResp.tree callK (clA 6)) = true := by kernel_rfl
theorem gP7 : clResp.good 6 (rulesSync 7) (clA 7) (clResp.tree callK (clA 7)) = true := by kernel_rfl
theorem gP8 : clResp.good 6 (rulesSync 8) (clA 8) (clResp.tree callK (clA 8)) = true := by kernel_rfl
theorem gQ1 : clReq.good 6 [] (clA 1) (clReq.tree callK (clA 1)) = true := by kernel_rfl
theorem gQ2 : clReq.good 6 [] (clA 2) (clReq.tree callK (clA 2)) = true := by kernel_rfl
theorem gQ3 : clReq.good 6 [] (clA 3) (clReq.tree callK (clA 3)) = true := by kernel_rfl
theorem gQ4 : clReq.good 6 [] (clA 4) (clReq.tree callK (clA 4)) = true := by kernel_rfl
theorem gQ5 : clReq.good 6 [] (clA 5) (clReq.tree callK (clA 5)) = true := by kernel_rfl
theorem gQ6 : clReq.good 6 [] (clA 6) (clReq.tree callK (clA 6)) = true := by kernel_rfl
theorem gQ7 : clReq.good 6 [] (clA 7) (clReq.tree callK (clA 7)) = true := by kernel_rfl
theorem gQ8 : clReq.good 6 [] (clA 8) (clReq.tree callK (clA 8)) = true := by kernel_rfl
theorem gO1 : clOff.good 6 [] (clA 1) (clOff.tree callK (clA 1)) = true := by kernel_rfl
theorem gO2 : clOff.good 6 [] (clA 2) (clOff.tree callK (clA 2)) = true := by kernel_rfl
theorem gO3 : clOff.good 6 [] (clA 3) (clOff.tree callK (clA 3)) = true := by kernel_rfl
theorem gO4 : clOff.good 6 [] (clA 4) (clOff.tree callK (clA 4)) = true := by kernel_rfl
theorem gO5 : clOff.good 6 [] (clA 5) (clOff.tree callK (clA 5)) = true := by kernel_rfl
theorem gO6 : clOff.good 6 [] (clA 6) (clOff.tree callK (clA 6)) = true := by kernel_rfl
theorem gO7 : clOff.good 6 [] (clA 7) (clOff.tree callK (clA 7)) = true := by kernel_rfl
theorem gO8 : clOff.good 6 [] (clA 8) (clOff.tree callK (clA 8)) = true := by kernel_rfl
end Go.Proofs.YtfcpmapfhgibpaaGreatDoor
