/- Kernel checks of Response, Request, Offset. -/
import Derived.Test.YtfcpmapfhgibpaaDoorWu
namespace Go.Proofs.YtfcpmapfhgibpaaDoor
open Go Go.RowKit SX Frm Frn
set_option maxRecDepth 1000000 in
theorem gP1 : clResp.good 6 (rulesSync 1) (clA 1) (clResp.tree callK (clA 1)) = true := by kernel_rfl
set_option maxRecDepth 1000000 in
theorem gP2 : clResp.good 6 (rulesSync 2) (clA 2) (clResp.tree callK (clA 2)) = true := by kernel_rfl
set_option maxRecDepth 1000000 in
theorem gP3 : clResp.good 6 (rulesSync 3) (clA 3) (clResp.tree callK (clA 3)) = true := by kernel_rfl
set_option maxRecDepth 1000000 in
theorem gP4 : clResp.good 6 (rulesSync 4) (clA 4) (clResp.tree callK (clA 4)) = true := by kernel_rfl
set_option maxRecDepth 1000000 in
theorem gP5 : clResp.good 6 (rulesSync 5) (clA 5) (clResp.tree callK (clA 5)) = true := by kernel_rfl
set_option maxRecDepth 1000000 in
theorem gP6 : clResp.good 6 (rulesSync 6) (clA 6) (clResp.tree callK (clA 6)) = true := by kernel_rfl
end Go.Proofs.YtfcpmapfhgibpaaDoor
namespace Go.Proofs.YtfcpmapfhgibpaaDoor
open Go Go.RowKit SX Frm Frn
set_option maxRecDepth 1000000 in
theorem gP7 : clResp.good 6 (rulesSync 7) (clA 7) (clResp.tree callK (clA 7)) = true := by kernel_rfl
set_option maxRecDepth 1000000 in
theorem gP8 : clResp.good 6 (rulesSync 8) (clA 8) (clResp.tree callK (clA 8)) = true := by kernel_rfl
end Go.Proofs.YtfcpmapfhgibpaaDoor
namespace Go.Proofs.YtfcpmapfhgibpaaDoor
open Go Go.RowKit SX Frm Frn
set_option maxRecDepth 1000000 in
theorem gQ1 : clReq.good 6 [] (clA 1) (clReq.tree callK (clA 1)) = true := by kernel_rfl
set_option maxRecDepth 1000000 in
theorem gQ2 : clReq.good 6 [] (clA 2) (clReq.tree callK (clA 2)) = true := by kernel_rfl
set_option maxRecDepth 1000000 in
theorem gQ3 : clReq.good 6 [] (clA 3) (clReq.tree callK (clA 3)) = true := by kernel_rfl
set_option maxRecDepth 1000000 in
theorem gQ4 : clReq.good 6 [] (clA 4) (clReq.tree callK (clA 4)) = true := by kernel_rfl
set_option maxRecDepth 1000000 in
theorem gQ5 : clReq.good 6 [] (clA 5) (clReq.tree callK (clA 5)) = true := by kernel_rfl
set_option maxRecDepth 1000000 in
theorem gQ6 : clReq.good 6 [] (clA 6) (clReq.tree callK (clA 6)) = true := by kernel_rfl
set_option maxRecDepth 1000000 in
theorem gQ7 : clReq.good 6 [] (clA 7) (clReq.tree callK (clA 7)) = true := by kernel_rfl
set_option maxRecDepth 1000000 in
theorem gQ8 : clReq.good 6 [] (clA 8) (clReq.tree callK (clA 8)) = true := by kernel_rfl
end Go.Proofs.YtfcpmapfhgibpaaDoor
namespace Go.Proofs.YtfcpmapfhgibpaaDoor
open Go Go.RowKit SX Frm Frn
set_option maxRecDepth 1000000 in
theorem gO1 : clOff.good 6 [] (clA 1) (clOff.tree callK (clA 1)) = true := by kernel_rfl
set_option maxRecDepth 1000000 in
theorem gO2 : clOff.good 6 [] (clA 2) (clOff.tree callK (clA 2)) = true := by kernel_rfl
set_option maxRecDepth 1000000 in
theorem gO3 : clOff.good 6 [] (clA 3) (clOff.tree callK (clA 3)) = true := by kernel_rfl
set_option maxRecDepth 1000000 in
theorem gO4 : clOff.good 6 [] (clA 4) (clOff.tree callK (clA 4)) = true := by kernel_rfl
set_option maxRecDepth 1000000 in
theorem gO5 : clOff.good 6 [] (clA 5) (clOff.tree callK (clA 5)) = true := by kernel_rfl
set_option maxRecDepth 1000000 in
theorem gO6 : clOff.good 6 [] (clA 6) (clOff.tree callK (clA 6)) = true := by kernel_rfl
set_option maxRecDepth 1000000 in
theorem gO7 : clOff.good 6 [] (clA 7) (clOff.tree callK (clA 7)) = true := by kernel_rfl
set_option maxRecDepth 1000000 in
theorem gO8 : clOff.good 6 [] (clA 8) (clOff.tree callK (clA 8)) = true := by kernel_rfl
end Go.Proofs.YtfcpmapfhgibpaaDoor
