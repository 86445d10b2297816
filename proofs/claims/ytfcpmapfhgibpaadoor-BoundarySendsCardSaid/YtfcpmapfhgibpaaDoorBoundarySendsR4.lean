/- The law BoundarySends of layer 41: its rounds, 8 messages. -/
import Derived.Test.YtfcpmapfhgibpaaDoorBoundarySendsH
namespace Go.Proofs.YtfcpmapfhgibpaaDoor
open Go Go.RowKit SX Frm Frn
set_option maxRecDepth 1000000 in
theorem snd_8_0 (g : Nat → Value) : sndOk sndC2 (sndM 8 0) g [] = true := by kernel_rfl
set_option maxRecDepth 1000000 in
theorem snd_8_1 (g : Nat → Value) : sndOk sndC2 (sndM 8 1) g [] = true := by kernel_rfl
set_option maxRecDepth 1000000 in
theorem snd_8_2 (g : Nat → Value) : sndOk sndC2 (sndM 8 2) g [] = true := by kernel_rfl
set_option maxRecDepth 1000000 in
theorem snd_8_3 (g : Nat → Value) : sndOk sndC2 (sndM 8 3) g [] = true := by kernel_rfl
set_option maxRecDepth 1000000 in
theorem snd_8_4 (g : Nat → Value) : sndOk sndC2 (sndM 8 4) g [] = true := by kernel_rfl
set_option maxRecDepth 1000000 in
theorem snd_8_5 (g : Nat → Value) : sndOk sndC2 (sndM 8 5) g [] = true := by kernel_rfl
set_option maxRecDepth 1000000 in
theorem snd_8_6 (g : Nat → Value) : sndOk sndC2 (sndM 8 6) g [] = true := by kernel_rfl
set_option maxRecDepth 1000000 in
theorem snd_8_7 (g : Nat → Value) : sndOk sndC2 (sndM 8 7) g [] = true := by kernel_rfl
set_option maxRecDepth 1000000 in
theorem snd_8_8 (g : Nat → Value) : sndOk sndC2 (sndM 8 8) g [] = true := by kernel_rfl
end Go.Proofs.YtfcpmapfhgibpaaDoor
