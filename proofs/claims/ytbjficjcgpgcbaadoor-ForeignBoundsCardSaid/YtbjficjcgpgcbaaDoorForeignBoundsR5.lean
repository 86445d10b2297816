/- The law ForeignBounds of layer 35: its rounds, 5 qualified. -/
import Derived.Test.YtbjficjcgpgcbaaDoorForeignBoundsH
namespace Go.Proofs.YtbjficjcgpgcbaaDoor
open Go Go.RowKit SX Frm Frn
set_option maxRecDepth 1000000 in
theorem bou_r2_5_0 (g : Nat → Value) : ((List.range 2).all fun f => bouOk bouC2 (bouT2 5 0 f) g) = true := by kernel_rfl
set_option maxRecDepth 1000000 in
theorem bou_r2_5_1 (g : Nat → Value) : ((List.range 2).all fun f => bouOk bouC2 (bouT2 5 1 f) g) = true := by kernel_rfl
set_option maxRecDepth 1000000 in
theorem bou_r2_5_2 (g : Nat → Value) : ((List.range 2).all fun f => bouOk bouC2 (bouT2 5 2 f) g) = true := by kernel_rfl
set_option maxRecDepth 1000000 in
theorem bou_r2_5_3 (g : Nat → Value) : ((List.range 2).all fun f => bouOk bouC2 (bouT2 5 3 f) g) = true := by kernel_rfl
set_option maxRecDepth 1000000 in
theorem bou_r2_5_4 (g : Nat → Value) : ((List.range 2).all fun f => bouOk bouC2 (bouT2 5 4 f) g) = true := by kernel_rfl
set_option maxRecDepth 1000000 in
theorem bou_r2_5_5 (g : Nat → Value) : ((List.range 2).all fun f => bouOk bouC2 (bouT2 5 5 f) g) = true := by kernel_rfl
end Go.Proofs.YtbjficjcgpgcbaaDoor
