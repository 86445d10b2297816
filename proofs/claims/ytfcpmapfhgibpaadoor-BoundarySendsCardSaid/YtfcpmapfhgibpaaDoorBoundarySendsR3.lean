/- The law BoundarySends of layer 41: its rounds, 7 messages. -/
import Derived.Test.YtfcpmapfhgibpaaDoorBoundarySendsH
namespace Go.Proofs.YtfcpmapfhgibpaaDoor
open Go Go.RowKit SX Frm Frn
set_option maxRecDepth 1000000 in
theorem snd_7_0 (g : Nat → Value) : sndOk sndC2 (sndM 7 0) g [] = true := by kernel_rfl
set_option maxRecDepth 1000000 in
theorem snd_7_1 (g : Nat → Value) : sndOk sndC2 (sndM 7 1) g [] = true := by kernel_rfl
set_option maxRecDepth 1000000 in
theorem snd_7_2 (g : Nat → Value) : sndOk sndC2 (sndM 7 2) g [] = true := by kernel_rfl
set_option maxRecDepth 1000000 in
theorem snd_7_3 (g : Nat → Value) : sndOk sndC2 (sndM 7 3) g [] = true := by kernel_rfl
set_option maxRecDepth 1000000 in
theorem snd_7_4 (g : Nat → Value) : sndOk sndC2 (sndM 7 4) g [] = true := by kernel_rfl
set_option maxRecDepth 1000000 in
theorem snd_7_5 (g : Nat → Value) : sndOk sndC2 (sndM 7 5) g [] = true := by kernel_rfl
set_option maxRecDepth 1000000 in
theorem snd_7_6 (g : Nat → Value) : sndOk sndC2 (sndM 7 6) g [] = true := by kernel_rfl
set_option maxRecDepth 1000000 in
theorem snd_7_7 (g : Nat → Value) : sndOk sndC2 (sndM 7 7) g [] = true := by kernel_rfl
end Go.Proofs.YtfcpmapfhgibpaaDoor
