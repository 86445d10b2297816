/- The law BoundarySends of layer 41: its rounds, 5, 6 messages. -/
import Derived.Test.YtfcpmapfhgibpaaDoorBoundarySendsH
namespace Go.Proofs.YtfcpmapfhgibpaaDoor
open Go Go.RowKit SX Frm Frn
set_option maxRecDepth 1000000 in
theorem snd_5_0 (g : Nat → Value) : sndOk sndC2 (sndM 5 0) g [] = true := by kernel_rfl
set_option maxRecDepth 1000000 in
theorem snd_5_1 (g : Nat → Value) : sndOk sndC2 (sndM 5 1) g [] = true := by kernel_rfl
set_option maxRecDepth 1000000 in
theorem snd_5_2 (g : Nat → Value) : sndOk sndC2 (sndM 5 2) g [] = true := by kernel_rfl
set_option maxRecDepth 1000000 in
theorem snd_5_3 (g : Nat → Value) : sndOk sndC2 (sndM 5 3) g [] = true := by kernel_rfl
set_option maxRecDepth 1000000 in
theorem snd_5_4 (g : Nat → Value) : sndOk sndC2 (sndM 5 4) g [] = true := by kernel_rfl
set_option maxRecDepth 1000000 in
theorem snd_5_5 (g : Nat → Value) : sndOk sndC2 (sndM 5 5) g [] = true := by kernel_rfl
set_option maxRecDepth 1000000 in
theorem snd_6_0 (g : Nat → Value) : sndOk sndC2 (sndM 6 0) g [] = true := by kernel_rfl
set_option maxRecDepth 1000000 in
theorem snd_6_1 (g : Nat → Value) : sndOk sndC2 (sndM 6 1) g [] = true := by kernel_rfl
set_option maxRecDepth 1000000 in
theorem snd_6_2 (g : Nat → Value) : sndOk sndC2 (sndM 6 2) g [] = true := by kernel_rfl
set_option maxRecDepth 1000000 in
theorem snd_6_3 (g : Nat → Value) : sndOk sndC2 (sndM 6 3) g [] = true := by kernel_rfl
set_option maxRecDepth 1000000 in
theorem snd_6_4 (g : Nat → Value) : sndOk sndC2 (sndM 6 4) g [] = true := by kernel_rfl
set_option maxRecDepth 1000000 in
theorem snd_6_5 (g : Nat → Value) : sndOk sndC2 (sndM 6 5) g [] = true := by kernel_rfl
set_option maxRecDepth 1000000 in
theorem snd_6_6 (g : Nat → Value) : sndOk sndC2 (sndM 6 6) g [] = true := by kernel_rfl
end Go.Proofs.YtfcpmapfhgibpaaDoor
