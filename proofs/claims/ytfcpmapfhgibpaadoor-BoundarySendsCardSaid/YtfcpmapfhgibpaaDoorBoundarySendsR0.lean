/- The law BoundarySends of layer 41: its rounds, the acts. -/
import Derived.Test.YtfcpmapfhgibpaaDoorBoundarySendsH2
namespace Go.Proofs.YtfcpmapfhgibpaaDoor
open Go Go.RowKit SX Frm Frn
set_option maxRecDepth 1000000 in
theorem snd_a0 (g : Nat → Value) : sndOk2 sndD sndT2 g [(sLt, true), (kd 0, true)] = true := by kernel_rfl
set_option maxRecDepth 1000000 in
theorem snd_a1 (g : Nat → Value) : sndOk2 sndD sndT2 g [(sLt, true), (kd 0, false), (kd 1, true)] = true := by kernel_rfl
set_option maxRecDepth 1000000 in
theorem snd_a2 (g : Nat → Value) : sndOk2 sndD sndT2 g [(sLt, true), (kd 0, false), (kd 1, false), (kd 2, true)] = true := by kernel_rfl
set_option maxRecDepth 1000000 in
theorem snd_a3 (g : Nat → Value) : sndOk2 sndD sndT2 g [(sLt, true), (kd 0, false), (kd 1, false), (kd 2, false), (kd 3, true)] = true := by kernel_rfl
set_option maxRecDepth 1000000 in
theorem snd_a4 (g : Nat → Value) : sndOk2 sndD sndT2 g [(sLt, true), (kd 0, false), (kd 1, false), (kd 2, false), (kd 3, false), (kd 4, true)] = true := by kernel_rfl
set_option maxRecDepth 1000000 in
theorem snd_a5 (g : Nat → Value) : sndOk2 sndD sndT2 g [(sLt, true), (kd 0, false), (kd 1, false), (kd 2, false), (kd 3, false), (kd 4, false)] = true := by kernel_rfl
set_option maxRecDepth 1000000 in
theorem snd_m0 (g : Nat → Value) : sndOk2 sndD sndT2 g [(sLt, false), (cN 0, true)] = true := by kernel_rfl
set_option maxRecDepth 1000000 in
theorem snd_m1 (g : Nat → Value) : sndOk2 sndD sndT2 g [(sLt, false), (cN 0, false), (cN 1, true)] = true := by kernel_rfl
set_option maxRecDepth 1000000 in
theorem snd_m2 (g : Nat → Value) : sndOk2 sndD sndT2 g [(sLt, false), (cN 0, false), (cN 1, false), (cN 2, true)] = true := by kernel_rfl
set_option maxRecDepth 1000000 in
theorem snd_m3 (g : Nat → Value) : sndOk2 sndD sndT2 g [(sLt, false), (cN 0, false), (cN 1, false), (cN 2, false), (cN 3, true)] = true := by kernel_rfl
set_option maxRecDepth 1000000 in
theorem snd_m4 (g : Nat → Value) : sndOk2 sndD sndT2 g [(sLt, false), (cN 0, false), (cN 1, false), (cN 2, false), (cN 3, false), (cN 4, true)] = true := by kernel_rfl
end Go.Proofs.YtfcpmapfhgibpaaDoor
