/- What the rows of layer 37 share: the tables of package port as the listed variables lay them; a slice of events that comes in. -/
import Derived.Test.YtbfokncailhdoaaDoorPortWalks
import Derived.Test.YtbfokncailhdoaaDoorLaid
import Derived.Test.YtbfokncailhdoaaDoorFlat
import Derived.Test.YtbfokncailhdoaaDoorTie
import Derived.Test.YtbfokncailhdoaaDoorCards
namespace Go.Proofs.YtbfokncailhdoaaDoor
open Go Go.ChangeShapes Go.WideShapes Go.ChangeAt Go.RowKit
set_option linter.unusedVariables false

def laidL : List (String × DataW Unit) := [("timesync/port.table", Rows.laid_timesync_port_table), ("timesync/port.names", Rows.laid_timesync_port_names)]
theorem own : ownKnob Tryd.prog.godebug = none := by kernel_rfl
theorem laidOut : laidOutB Tryd.prog = true := by kernel_rfl
theorem gTab : Tryd.prog.globalNamed "timesync/port.table" = some 0 := by kernel_rfl
theorem gNam : Tryd.prog.globalNamed "timesync/port.names" = some 1 := by kernel_rfl
theorem tTab : (Tryd.prog.globals[0]?).map (·.type) = some 39 := by kernel_rfl
theorem tNam : (Tryd.prog.globals[1]?).map (·.type) = some 40 := by kernel_rfl
theorem okTab : arrOK Tryd.prog 3 39 = true := by kernel_rfl
theorem okNam : arrOK Tryd.prog 3 40 = true := by kernel_rfl
theorem dTab : flatD (H := Unit) Rows.laid_timesync_port_table = some (PortLaw.tbl.map (Value.int .i64)) := by kernel_rfl
theorem dNam : flatD (H := Unit) Rows.laid_timesync_port_names = some ((List.range 10).map fun i : Nat => Value.string (PortLaw.nm (i : Int))) := by kernel_rfl
theorem evFlat : flatTs Tryd.prog 3 32 = some [3, 4] := by kernel_rfl
theorem evCells : Tryd.prog.cellsOf 32 = 2 := by kernel_rfl

theorem tabs_of_laid {W : World} (h : laidMetH Tryd.prog laidL W) : PortTab W ∧ NameTab W := by
  rw [MakeChecks.laidMetH_plain _ _ _ (by kernel_rfl)] at h
  refine ⟨fun i hi => laid_cell h (List.mem_cons_self ..) gTab tTab okTab dTab i _ ?_, fun i hi => laid_cell h (List.mem_cons_of_mem _ (List.mem_cons_self ..)) gNam tNam okNam dNam i _ ?_⟩
  · have hl : PortLaw.tbl.length = 170 := rfl
    rw [List.getElem?_map, List.getElem?_eq_getElem (by omega)]
    simp [List.getD, hl, hi]
  · rw [List.getElem?_map, List.getElem?_eq_getElem (by simpa using hi)]
    simp

/-- The door's own heap meets the condition. -/
theorem door_met (os : Os) (args : Array Value) : laidMetH Tryd.prog laidL ((World.doorLaid Tryd.prog 400 os).forCall (fun _ _ => 0) ⟨#[], args, []⟩).memory :=
  laidMetH_of_parts3 (fuel := 8) (laidMet_of_run' 8 (by kernel_rfl) (by kernel_rfl)) (by kernel_rfl) (by kernel_rfl)

/-- A slice of events that comes in. -/
theorem open_events {H : Type} {enc : TypeId × Value → H} {W : World} {base : Nat} {v : Value} {d : DataW H} {p : List MemPlace}
    (hv : Value.okWide Tryd.prog W .any base 27 v) (h : DataW.Trod enc Tryd.prog W 0 (fun _ => true) true 27 v d p) :
    ∃ (A : Option Addr) (l : List (Int × Bool)) (cap : Nat), v = .slice A l.length cap ∧ l.length ≤ cap ∧ cap ≤ 9223372036854775807 ∧ Sl W W.heap.size 2 A (l.map evC) := by
  obtain ⟨A, len, cap, xs, rfl, hl, hc, hm, _, hs, hall⟩ := open_slice_flat Tryd.underlying27 evFlat evCells (by simp) hv h
  obtain ⟨l, rfl, _⟩ := all_map (f := evC) (Q := fun _ => True) xs (fun x hx => by
    have := hall x hx
    cases this with
    | cons h1 h2 => cases h2 with
      | cons h3 h4 => cases h4 with
        | nil =>
          obtain ⟨n, rfl, _⟩ := h1.int Tryd.underlying3
          obtain ⟨b, rfl⟩ := h3.bool Tryd.underlying4
          exact ⟨(n, b), rfl, trivial⟩)
  rw [List.length_map] at hl
  subst hl
  exact ⟨A, l, cap, rfl, hc, by unfold maxLen at hm; omega, hs⟩
end Go.Proofs.YtbfokncailhdoaaDoor
