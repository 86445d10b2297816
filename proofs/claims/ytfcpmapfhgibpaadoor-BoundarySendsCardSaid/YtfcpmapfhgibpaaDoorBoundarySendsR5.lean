/- The law BoundarySends of layer 41: its rounds, after the acts. -/
import Derived.Test.YtfcpmapfhgibpaaDoorBoundarySendsH2
namespace Go.Proofs.YtfcpmapfhgibpaaDoor
open Go Go.RowKit SX Frm Frn
set_option maxRecDepth 1000000 in
theorem snd_m5 (g : Nat → Value) : sndOk2 sndD sndT2 g [(sLt, false), (cN 0, false), (cN 1, false), (cN 2, false), (cN 3, false), (cN 4, false), (cN 5, true)] = true := by kernel_rfl
set_option maxRecDepth 1000000 in
theorem snd_m6 (g : Nat → Value) : sndOk2 sndD sndT2 g [(sLt, false), (cN 0, false), (cN 1, false), (cN 2, false), (cN 3, false), (cN 4, false), (cN 5, false), (cN 6, true)] = true := by kernel_rfl
end Go.Proofs.YtfcpmapfhgibpaaDoor
