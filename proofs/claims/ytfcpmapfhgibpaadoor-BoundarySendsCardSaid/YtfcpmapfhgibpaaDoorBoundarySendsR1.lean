/- The law BoundarySends of layer 41: its rounds, 0, 1, 2, 3, 4 messages. -/
import Derived.Test.YtfcpmapfhgibpaaDoorBoundarySendsH
namespace Go.Proofs.YtfcpmapfhgibpaaDoor
open Go Go.RowKit SX Frm Frn
set_option maxRecDepth 1000000 in
theorem snd_0_0 (g : Nat → Value) : sndOk sndC2 (sndM 0 0) g [] = true := by kernel_rfl
set_option maxRecDepth 1000000 in
theorem snd_1_0 (g : Nat → Value) : sndOk sndC2 (sndM 1 0) g [] = true := by kernel_rfl
set_option maxRecDepth 1000000 in
theorem snd_1_1 (g : Nat → Value) : sndOk sndC2 (sndM 1 1) g [] = true := by kernel_rfl
set_option maxRecDepth 1000000 in
theorem snd_2_0 (g : Nat → Value) : sndOk sndC2 (sndM 2 0) g [] = true := by kernel_rfl
set_option maxRecDepth 1000000 in
theorem snd_2_1 (g : Nat → Value) : sndOk sndC2 (sndM 2 1) g [] = true := by kernel_rfl
set_option maxRecDepth 1000000 in
theorem snd_2_2 (g : Nat → Value) : sndOk sndC2 (sndM 2 2) g [] = true := by kernel_rfl
set_option maxRecDepth 1000000 in
theorem snd_3_0 (g : Nat → Value) : sndOk sndC2 (sndM 3 0) g [] = true := by kernel_rfl
set_option maxRecDepth 1000000 in
theorem snd_3_1 (g : Nat → Value) : sndOk sndC2 (sndM 3 1) g [] = true := by kernel_rfl
set_option maxRecDepth 1000000 in
theorem snd_3_2 (g : Nat → Value) : sndOk sndC2 (sndM 3 2) g [] = true := by kernel_rfl
set_option maxRecDepth 1000000 in
theorem snd_3_3 (g : Nat → Value) : sndOk sndC2 (sndM 3 3) g [] = true := by kernel_rfl
set_option maxRecDepth 1000000 in
theorem snd_4_0 (g : Nat → Value) : sndOk sndC2 (sndM 4 0) g [] = true := by kernel_rfl
set_option maxRecDepth 1000000 in
theorem snd_4_1 (g : Nat → Value) : sndOk sndC2 (sndM 4 1) g [] = true := by kernel_rfl
set_option maxRecDepth 1000000 in
theorem snd_4_2 (g : Nat → Value) : sndOk sndC2 (sndM 4 2) g [] = true := by kernel_rfl
set_option maxRecDepth 1000000 in
theorem snd_4_3 (g : Nat → Value) : sndOk sndC2 (sndM 4 3) g [] = true := by kernel_rfl
set_option maxRecDepth 1000000 in
theorem snd_4_4 (g : Nat → Value) : sndOk sndC2 (sndM 4 4) g [] = true := by kernel_rfl
end Go.Proofs.YtfcpmapfhgibpaaDoor
