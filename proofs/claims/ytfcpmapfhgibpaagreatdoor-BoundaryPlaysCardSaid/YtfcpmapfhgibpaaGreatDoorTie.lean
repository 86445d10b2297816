/-
  DERIVED. GIVEN WITH THE SEED: THE PROGRAM's TIES (one call each: nine closed facts by the kernel) AND EACH ROW's TIE, after the 31st guide's Derived/Test/Toyas{Tie, Card}.lean. No idea stands in it: it is a product of the set-up. Laid BY PROGRAM, IN A SANDBOX (cutbox-door.mjs). By AI agents, Wed Nov 11 2026. No macro, syntax, notation, axiom, sorry.
-/
import Derived.Test.YtfcpmapfhgibpaaGreatDoorRows
import Derived.LaidByTextLater
import Derived.SevenTiedAt
import Derived.LaidSub
import Derived.LaidOnce
namespace Go.Proofs.YtfcpmapfhgibpaaGreatDoor
open Go
set_option maxRecDepth 100000
theorem seatTie1 : Tryz.prog.laidByTextLater [("timesync/port.table", Rows.laid_timesync_port_table), ("timesync/dataset.fields", Rows.laid_timesync_dataset_fields)] [.data, .data] true :=
  Program.laidByTextLater_by_one 36 8 171 (by kernel_rfl) (by kernel_rfl) (by kernel_rfl) (by kernel_rfl) (by kernel_rfl) (by kernel_rfl) (fun _ _ => by kernel_rfl)
theorem noOwnUnsafe : Tryz.pinned.checked.prog.headLifts.contains "ownunsafe" = false := by kernel_rfl
theorem tie : Tryz.prog.laidByTextLater [("timesync/port.table", Rows.laid_timesync_port_table), ("timesync/dataset.fields", Rows.laid_timesync_dataset_fields)] [.data, .data] true :=
  Program.laidByTextLater.sub seatTie1 ["timesync/port.table", "timesync/dataset.fields"] (by kernel_rfl) (by kernel_rfl)
theorem boundaryPlays_row_tie : Rows.boundaryPlaysRow.laidByTextAt .later Tryz.pinned [.data, .data] true :=
  OpenClaim.laidByTextAt_later rfl rfl tie noOwnUnsafe
theorem boundaryPlaysUpto_row_tie : Rows.boundaryPlaysUptoRow.laidByTextAt .later Tryz.pinned [.data, .data] true :=
  OpenClaim.laidByTextAt_later rfl rfl tie noOwnUnsafe
end Go.Proofs.YtfcpmapfhgibpaaGreatDoor
