/- The walks of layer 34's laws DatasetCompares, DatasetMirror, DatasetQuality. -/
import Derived.Test.YtljcmjcfebpkoaaDoorDsLaws
namespace Go.Proofs.YtljcmjcfebpkoaaDoor
set_option linter.unusedVariables false
open Go.RowKit
open DsLaw (I64 U64 cmpI lexF lt rk)

/-- Two boxed data sets. -/
def W2 (a b : DS) (w W : World) : Prop := (W.cell? ⟨w.heap.size, 0, none⟩ = some (.int .i64 a.p1) ∧ W.cell? ⟨w.heap.size, 1, none⟩ = some (.int .i64 a.cls) ∧ W.cell? ⟨w.heap.size, 2, none⟩ = some (.int .i64 a.acc) ∧ W.cell? ⟨w.heap.size, 3, none⟩ = some (.int .i64 a.vr) ∧ W.cell? ⟨w.heap.size, 4, none⟩ = some (.int .i64 a.p2) ∧ W.cell? ⟨w.heap.size, 5, none⟩ = some (.int .u64 a.gm) ∧ W.cell? ⟨w.heap.size, 6, none⟩ = some (.int .i64 a.steps) ∧ W.cell? ⟨w.heap.size, 7, none⟩ = some (.int .u64 a.snd) ∧ W.cell? ⟨w.heap.size, 8, none⟩ = some (.int .i64 a.sp) ∧ W.cell? ⟨w.heap.size, 9, none⟩ = some (.int .u64 a.rcv) ∧ W.cell? ⟨w.heap.size, 10, none⟩ = some (.int .i64 a.rp)) ∧ (W.cell? ⟨w.heap.size + 1, 0, none⟩ = some (.int .i64 b.p1) ∧ W.cell? ⟨w.heap.size + 1, 1, none⟩ = some (.int .i64 b.cls) ∧ W.cell? ⟨w.heap.size + 1, 2, none⟩ = some (.int .i64 b.acc) ∧ W.cell? ⟨w.heap.size + 1, 3, none⟩ = some (.int .i64 b.vr) ∧ W.cell? ⟨w.heap.size + 1, 4, none⟩ = some (.int .i64 b.p2) ∧ W.cell? ⟨w.heap.size + 1, 5, none⟩ = some (.int .u64 b.gm) ∧ W.cell? ⟨w.heap.size + 1, 6, none⟩ = some (.int .i64 b.steps) ∧ W.cell? ⟨w.heap.size + 1, 7, none⟩ = some (.int .u64 b.snd) ∧ W.cell? ⟨w.heap.size + 1, 8, none⟩ = some (.int .i64 b.sp) ∧ W.cell? ⟨w.heap.size + 1, 9, none⟩ = some (.int .u64 b.rcv) ∧ W.cell? ⟨w.heap.size + 1, 10, none⟩ = some (.int .i64 b.rp)) ∧ w.heap.size + 2 ≤ W.heap.size ∧ Below w.heap.size w W
theorem W2.step {a b : DS} {w W W1 : World} (h : W2 a b w W) (hb : Below W.heap.size W W1) : W2 a b w W1 := by
  obtain ⟨h1, h2, h5, h6⟩ := h
  exact ⟨(rangeAt_ds ..).1 (rangeAt_below ((rangeAt_ds ..).2 h1) hb (by omega)), (rangeAt_ds ..).1 (rangeAt_below ((rangeAt_ds ..).2 h2) hb (by omega)), Nat.le_trans h5 hb.size, h6.trans (hb.mono (by omega))⟩
theorem W2.new (a b : DS) (w : World) (t1 t2 : TypeId) : W2 a b w ((w.alloc (.cells #[.int .i64 a.p1, .int .i64 a.cls, .int .i64 a.acc, .int .i64 a.vr, .int .i64 a.p2, .int .u64 a.gm, .int .i64 a.steps, .int .u64 a.snd, .int .i64 a.sp, .int .u64 a.rcv, .int .i64 a.rp] t1)).alloc (.cells #[.int .i64 b.p1, .int .i64 b.cls, .int .i64 b.acc, .int .i64 b.vr, .int .i64 b.p2, .int .u64 b.gm, .int .i64 b.steps, .int .u64 b.snd, .int .i64 b.sp, .int .u64 b.rcv, .int .i64 b.rp] t2)) :=
  ⟨(rangeAt_ds ..).1 (rangeAt_alloc (rangeAt_new _ _ [.int .i64 a.p1, .int .i64 a.cls, .int .i64 a.acc, .int .i64 a.vr, .int .i64 a.p2, .int .u64 a.gm, .int .i64 a.steps, .int .u64 a.snd, .int .i64 a.sp, .int .u64 a.rcv, .int .i64 a.rp] _ rfl) (by simp) _), (rangeAt_ds ..).1 (rangeAt_new _ _ [.int .i64 b.p1, .int .i64 b.cls, .int .i64 b.acc, .int .i64 b.vr, .int .i64 b.p2, .int .u64 b.gm, .int .i64 b.steps, .int .u64 b.snd, .int .i64 b.sp, .int .u64 b.rcv, .int .i64 b.rp] _ (by simp)), by simp, ((Below.refl _ _).alloc (Nat.le_refl _) _).alloc (by simp) _⟩
theorem drew1 (w : World) : Below w.heap.size w w.drew := below_drewN (Below.refl _ _) 1

set_option maxHeartbeats 1000000 in
theorem compares_walk (a b : DS) (ha : DsLaw.Ok a) (hb : DsLaw.Ok b) (w : World) (hF : Fields w) :
    Calls Tryd.prog 3 #[(.agg #[.int .i64 a.p1, .int .i64 a.cls, .int .i64 a.acc, .int .i64 a.vr, .int .i64 a.p2, .int .u64 a.gm, .int .i64 a.steps, .int .u64 a.snd, .int .i64 a.sp, .int .u64 a.rcv, .int .i64 a.rp]), (.agg #[.int .i64 b.p1, .int .i64 b.cls, .int .i64 b.acc, .int .i64 b.vr, .int .i64 b.p2, .int .u64 b.gm, .int .i64 b.steps, .int .u64 b.snd, .int .i64 b.sp, .int .u64 b.rcv, .int .i64 b.rp])] w fun e w' => e = .returned (.bool true) ∧ Below w.heap.size w w' := by
  have hC := Lib.hid (fun (W : World) (h : W2 a b w W) => compare_any a b ha hb W (hF.below h.2.2.2 hF.lt))
  have hR := Lib.hid (fun (W : World) (h : W2 a b w W) => r_compare_any a b ha hb W)
  have hA := Lib.hid (fun (W : World) (h : W2 a b w W) => awake_any W (hF.below h.2.2.2 hF.lt))
  have HD := Lib.hid (fun t1 t2 => (W2.new a b w t1 t2).step (drew1 _))
  clear hF
  go_enter Tryd.func3, Tryd.ntmps3
  go_wp2_with fail
  go_region_held3 (fun W => (W.cell? ⟨w.heap.size, 0, none⟩ = some (.int .i64 a.p1) ∧ W.cell? ⟨w.heap.size, 1, none⟩ = some (.int .i64 a.cls) ∧ W.cell? ⟨w.heap.size, 2, none⟩ = some (.int .i64 a.acc) ∧ W.cell? ⟨w.heap.size, 3, none⟩ = some (.int .i64 a.vr) ∧ W.cell? ⟨w.heap.size, 4, none⟩ = some (.int .i64 a.p2) ∧ W.cell? ⟨w.heap.size, 5, none⟩ = some (.int .u64 a.gm) ∧ W.cell? ⟨w.heap.size, 6, none⟩ = some (.int .i64 a.steps) ∧ W.cell? ⟨w.heap.size, 7, none⟩ = some (.int .u64 a.snd) ∧ W.cell? ⟨w.heap.size, 8, none⟩ = some (.int .i64 a.sp) ∧ W.cell? ⟨w.heap.size, 9, none⟩ = some (.int .u64 a.rcv) ∧ W.cell? ⟨w.heap.size, 10, none⟩ = some (.int .i64 a.rp)) ∧ (W.cell? ⟨w.heap.size + 1, 0, none⟩ = some (.int .i64 b.p1) ∧ W.cell? ⟨w.heap.size + 1, 1, none⟩ = some (.int .i64 b.cls) ∧ W.cell? ⟨w.heap.size + 1, 2, none⟩ = some (.int .i64 b.acc) ∧ W.cell? ⟨w.heap.size + 1, 3, none⟩ = some (.int .i64 b.vr) ∧ W.cell? ⟨w.heap.size + 1, 4, none⟩ = some (.int .i64 b.p2) ∧ W.cell? ⟨w.heap.size + 1, 5, none⟩ = some (.int .u64 b.gm) ∧ W.cell? ⟨w.heap.size + 1, 6, none⟩ = some (.int .i64 b.steps) ∧ W.cell? ⟨w.heap.size + 1, 7, none⟩ = some (.int .u64 b.snd) ∧ W.cell? ⟨w.heap.size + 1, 8, none⟩ = some (.int .i64 b.sp) ∧ W.cell? ⟨w.heap.size + 1, 9, none⟩ = some (.int .u64 b.rcv) ∧ W.cell? ⟨w.heap.size + 1, 10, none⟩ = some (.int .i64 b.rp)) ∧ w.heap.size + 2 ≤ W.heap.size ∧ Below w.heap.size w W)
    (first | assumption | exact HD.out _ _ | (show W2 a b w _; refine W2.step ?_ hb1; assumption))
    (first | (go_at_call 11; refine (hC.out _ (by assumption)).mono ?_; rintro e w1 ⟨rfl, hb1⟩) | (go_at_call 12; refine (hR.out _ (by assumption)).mono ?_; rintro e w1 ⟨rfl, hb1⟩) | (go_at_call 13; refine (hA.out _ (by assumption)).mono ?_; rintro e w1 ⟨rfl, hb1⟩))
  have hfin : W2 a b w w1 := by assumption
  have HB := Lib.hid hfin.2.2.2
  clear hfin
  go_wp2
  go_ret
  exact ⟨rfl, HB.out⟩
end Go.Proofs.YtljcmjcfebpkoaaDoor
