/- What the rows of layer 34 share: the table of package dataset as the listed variable lays it; data sets that come in. -/
import Derived.Test.YtljcmjcfebpkoaaDoorDsBest
import Derived.Test.YtljcmjcfebpkoaaDoorLaid
import Derived.Test.YtljcmjcfebpkoaaDoorFlat
import Derived.Test.YtljcmjcfebpkoaaDoorTie
import Derived.Test.YtljcmjcfebpkoaaDoorCards
namespace Go.Proofs.YtljcmjcfebpkoaaDoor
open Go Go.ChangeShapes Go.WideShapes Go.ChangeAt Go.RowKit
set_option linter.unusedVariables false

def laidL : List (String × DataW Unit) := [("timesync/dataset.fields", Rows.laid_timesync_dataset_fields)]
theorem own : ownKnob Tryd.prog.godebug = none := by kernel_rfl
theorem laidOut : laidOutB Tryd.prog = true := by kernel_rfl
theorem gTab : Tryd.prog.globalNamed "timesync/dataset.fields" = some 0 := by kernel_rfl
theorem tTab : (Tryd.prog.globals[0]?).map (·.type) = some 62 := by kernel_rfl
theorem okTab : arrOK Tryd.prog 3 62 = true := by kernel_rfl
theorem dTab : flatD (H := Unit) Rows.laid_timesync_dataset_fields = some ((List.range 14).map fun i : Nat => Value.int .i64 (DsLaw.F i : Nat)) := by kernel_rfl

theorem fields_of_laid {W : World} (h : laidMetH Tryd.prog laidL W) : Fields W := by
  rw [MakeChecks.laidMetH_plain _ _ _ (by kernel_rfl)] at h
  refine fun i hi => laid_cell h (List.mem_cons_self ..) gTab tTab okTab dTab i _ ?_
  rw [List.getElem?_map, List.getElem?_eq_getElem (by simpa using hi)]
  simp

/-- The door's own heap meets the condition. -/
theorem door_met (os : Os) (args : Array Value) : laidMetH Tryd.prog laidL ((World.doorLaid Tryd.prog 400 os).forCall (fun _ _ => 0) ⟨#[], args, []⟩).memory :=
  laidMetH_of_parts3 (fuel := 8) (laidMet_of_run' 8 (by kernel_rfl) (by kernel_rfl)) (by kernel_rfl) (by kernel_rfl)

theorem dsFlat : flatTs Tryd.prog 3 24 = some [3, 3, 3, 3, 3, 22, 3, 22, 3, 22, 3] := by kernel_rfl
theorem dsCells : Tryd.prog.cellsOf 24 = 11 := by kernel_rfl
theorem ds_of_flat {x : List Value} (h : All2 (Leaf Tryd.prog) [3, 3, 3, 3, 3, 22, 3, 22, 3, 22, 3] x) : ∃ d : DS, x = dsL d ∧ DsLaw.Ok d := by
  match x, h with
  | [_, _, _, _, _, _, _, _, _, _, _], .cons h0 (.cons h1 (.cons h2 (.cons h3 (.cons h4 (.cons h5 (.cons h6 (.cons h7 (.cons h8 (.cons h9 (.cons h10 .nil)))))))))) =>
    obtain ⟨p1, rfl, w0⟩ := h0.int Tryd.underlying3
    obtain ⟨cls, rfl, w1⟩ := h1.int Tryd.underlying3
    obtain ⟨acc, rfl, w2⟩ := h2.int Tryd.underlying3
    obtain ⟨vr, rfl, w3⟩ := h3.int Tryd.underlying3
    obtain ⟨p2, rfl, w4⟩ := h4.int Tryd.underlying3
    obtain ⟨gm, rfl, w5⟩ := h5.int Tryd.underlying22
    obtain ⟨steps, rfl, w6⟩ := h6.int Tryd.underlying3
    obtain ⟨snd, rfl, w7⟩ := h7.int Tryd.underlying22
    obtain ⟨sp, rfl, w8⟩ := h8.int Tryd.underlying3
    obtain ⟨rcv, rfl, w9⟩ := h9.int Tryd.underlying22
    obtain ⟨rp, rfl, w10⟩ := h10.int Tryd.underlying3
    exact ⟨⟨p1, cls, acc, vr, p2, gm, steps, snd, sp, rcv, rp⟩, rfl, ⟨bounds_i64 w0, bounds_i64 w1, bounds_i64 w2, bounds_i64 w3, bounds_i64 w4, bounds_u64 w5, bounds_i64 w6, bounds_u64 w7, bounds_i64 w8, bounds_u64 w9, bounds_i64 w10⟩⟩
/-- A data set that comes in. -/
theorem open_ds {H : Type} {enc : TypeId × Value → H} {W : World} {base : Nat} {v : Value} {d : DataW H} {p : List MemPlace}
    (hv : Value.okWide Tryd.prog W .any base 24 v) (h : DataW.Trod enc Tryd.prog W 0 (fun _ => true) true 24 v d p) : ∃ d : DS, v = (.agg #[.int .i64 d.p1, .int .i64 d.cls, .int .i64 d.acc, .int .i64 d.vr, .int .i64 d.p2, .int .u64 d.gm, .int .i64 d.steps, .int .u64 d.snd, .int .i64 d.sp, .int .u64 d.rcv, .int .i64 d.rp]) ∧ DsLaw.Ok d := by
  obtain ⟨cs, rfl, hall⟩ := open_flat Tryd.underlying24 dsFlat hv h
  obtain ⟨d, rfl, hd⟩ := ds_of_flat hall
  exact ⟨d, rfl, hd⟩
/-- A slice of data sets that comes in. -/
theorem open_dss {H : Type} {enc : TypeId × Value → H} {W : World} {base : Nat} {v : Value} {d : DataW H} {p : List MemPlace}
    (hv : Value.okWide Tryd.prog W .any base 28 v) (h : DataW.Trod enc Tryd.prog W 0 (fun _ => true) true 28 v d p) :
    ∃ (A : Option Addr) (l : List DS) (cap : Nat), v = .slice A l.length cap ∧ l.length ≤ cap ∧ cap ≤ 9223372036854775807 ∧ Sl W W.heap.size 11 A (l.map dsL) ∧ ∀ d ∈ l, DsLaw.Ok d := by
  obtain ⟨A, len, cap, xs, rfl, hl, hc, hm, _, hs, hall⟩ := open_slice_flat Tryd.underlying28 dsFlat dsCells (by simp) hv h
  obtain ⟨l, rfl, hok⟩ := all_map (f := dsL) (Q := DsLaw.Ok) xs (fun x hx => ds_of_flat (hall x hx))
  rw [List.length_map] at hl
  subst hl
  exact ⟨A, l, cap, rfl, hc, by unfold maxLen at hm; omega, hs, hok⟩
theorem hopFlat : flatTs Tryd.prog 3 33 = some [22, 22, 3, 3] := by kernel_rfl
/-- A hop that comes in. -/
theorem open_hop {H : Type} {enc : TypeId × Value → H} {W : World} {base : Nat} {v : Value} {d : DataW H} {p : List MemPlace}
    (hv : Value.okWide Tryd.prog W .any base 33 v) (h : DataW.Trod enc Tryd.prog W 0 (fun _ => true) true 33 v d p) :
    ∃ s r sp rp : Int, v = .agg #[.int .u64 s, .int .u64 r, .int .i64 sp, .int .i64 rp] ∧ DsLaw.U64 s ∧ DsLaw.U64 r ∧ DsLaw.I64 sp ∧ DsLaw.I64 rp := by
  obtain ⟨cs, rfl, hall⟩ := open_flat Tryd.underlying33 hopFlat hv h
  match cs, hall with
  | [_, _, _, _], .cons h0 (.cons h1 (.cons h2 (.cons h3 .nil))) =>
    obtain ⟨s, rfl, w0⟩ := h0.int Tryd.underlying22
    obtain ⟨r, rfl, w1⟩ := h1.int Tryd.underlying22
    obtain ⟨sp, rfl, w2⟩ := h2.int Tryd.underlying3
    obtain ⟨rp, rfl, w3⟩ := h3.int Tryd.underlying3
    exact ⟨s, r, sp, rp, rfl, bounds_u64 w0, bounds_u64 w1, bounds_i64 w2, bounds_i64 w3⟩
end Go.Proofs.YtljcmjcfebpkoaaDoor
