/- The walk of layer 34's law DatasetBest. -/
import Derived.Test.YtljcmjcfebpkoaaDoorDsLawsA
namespace Go.Proofs.YtljcmjcfebpkoaaDoor
set_option linter.unusedVariables false
open Go.RowKit
open DsLaw (I64 U64 cmpI lexF lt rk)

set_option maxHeartbeats 2000000 in
theorem best_walk (l : List DS) (A : Option Addr) (cap : Nat) (a b : DS) (hl : l.length ≤ cap) (hc : cap ≤ 9223372036854775807) (hok : ∀ d ∈ l, DsLaw.Ok d) (ha : DsLaw.Ok a) (hb : DsLaw.Ok b) (w : World) (hsl : Sl w w.heap.size 11 A (l.map dsL)) (hF : Fields w) :
    Calls Tryd.prog 4 #[.slice A l.length cap, (.agg #[.int .i64 a.p1, .int .i64 a.cls, .int .i64 a.acc, .int .i64 a.vr, .int .i64 a.p2, .int .u64 a.gm, .int .i64 a.steps, .int .u64 a.snd, .int .i64 a.sp, .int .u64 a.rcv, .int .i64 a.rp]), (.agg #[.int .i64 b.p1, .int .i64 b.cls, .int .i64 b.acc, .int .i64 b.vr, .int .i64 b.p2, .int .u64 b.gm, .int .i64 b.steps, .int .u64 b.snd, .int .i64 b.sp, .int .u64 b.rcv, .int .i64 b.rp])] w fun e w' => e = .returned (.bool true) ∧ Below w.heap.size w w' := by
  obtain ⟨m, hm⟩ : ∃ m, m = l.take 200 := ⟨_, rfl⟩
  have hml : m.length = min 200 l.length := by rw [hm, List.length_take]
  have hsm : Sl w w.heap.size 11 A (m.map dsL) := by rw [hm, List.map_take]; exact hsl.take 200
  have hmk : ∀ d ∈ m, DsLaw.Ok d := fun d hd => hok d (by rw [hm] at hd; exact List.mem_of_mem_take hd)
  have hm3 : m.length ≤ 4611686018427387904 := by omega
  have hL := Lib.hid (fun (W : World) (h : W2 a b w W) => less_any a b ha hb W (hF.below h.2.2.2 hF.lt))
  have hR := Lib.hid (fun (W : World) (h : W2 a b w W) => r_less_any a b W)
  have hBB := Lib.hid (fun (W : World) (c : Nat) (h : W2 a b w W) => best_any m A c hmk hm3 W (hF.below h.2.2.2 hF.lt) ((hsm.below h.2.2.2).more h.2.2.2.size))
  have hRB := Lib.hid (fun (W : World) (c : Nat) (h : W2 a b w W) => r_best_any m A c hmk hm3 W ((hsm.below h.2.2.2).more h.2.2.2.size))
  have hA := Lib.hid (fun (W : World) (h : W2 a b w W) => awake_any W (hF.below h.2.2.2 hF.lt))
  have HD := Lib.hid (fun t1 t2 => (W2.new a b w t1 t2).step (drew1 _))
  clear hF hm hsl hok hsm hmk
  generalize l.length = n at *
  generalize m.length = k at *
  by_cases h2 : n ≤ 200
  · obtain rfl : k = n := by omega
    clear hml hm3
    go_enter Tryd.func4, Tryd.ntmps4
    go_wp2_with fail
    go_region_held3 (fun W => (W.cell? ⟨w.heap.size, 0, none⟩ = some (.int .i64 a.p1) ∧ W.cell? ⟨w.heap.size, 1, none⟩ = some (.int .i64 a.cls) ∧ W.cell? ⟨w.heap.size, 2, none⟩ = some (.int .i64 a.acc) ∧ W.cell? ⟨w.heap.size, 3, none⟩ = some (.int .i64 a.vr) ∧ W.cell? ⟨w.heap.size, 4, none⟩ = some (.int .i64 a.p2) ∧ W.cell? ⟨w.heap.size, 5, none⟩ = some (.int .u64 a.gm) ∧ W.cell? ⟨w.heap.size, 6, none⟩ = some (.int .i64 a.steps) ∧ W.cell? ⟨w.heap.size, 7, none⟩ = some (.int .u64 a.snd) ∧ W.cell? ⟨w.heap.size, 8, none⟩ = some (.int .i64 a.sp) ∧ W.cell? ⟨w.heap.size, 9, none⟩ = some (.int .u64 a.rcv) ∧ W.cell? ⟨w.heap.size, 10, none⟩ = some (.int .i64 a.rp)) ∧ (W.cell? ⟨w.heap.size + 1, 0, none⟩ = some (.int .i64 b.p1) ∧ W.cell? ⟨w.heap.size + 1, 1, none⟩ = some (.int .i64 b.cls) ∧ W.cell? ⟨w.heap.size + 1, 2, none⟩ = some (.int .i64 b.acc) ∧ W.cell? ⟨w.heap.size + 1, 3, none⟩ = some (.int .i64 b.vr) ∧ W.cell? ⟨w.heap.size + 1, 4, none⟩ = some (.int .i64 b.p2) ∧ W.cell? ⟨w.heap.size + 1, 5, none⟩ = some (.int .u64 b.gm) ∧ W.cell? ⟨w.heap.size + 1, 6, none⟩ = some (.int .i64 b.steps) ∧ W.cell? ⟨w.heap.size + 1, 7, none⟩ = some (.int .u64 b.snd) ∧ W.cell? ⟨w.heap.size + 1, 8, none⟩ = some (.int .i64 b.sp) ∧ W.cell? ⟨w.heap.size + 1, 9, none⟩ = some (.int .u64 b.rcv) ∧ W.cell? ⟨w.heap.size + 1, 10, none⟩ = some (.int .i64 b.rp)) ∧ w.heap.size + 2 ≤ W.heap.size ∧ Below w.heap.size w W)
      (first | assumption | exact HD.out _ _ | (show W2 a b w _; refine W2.step ?_ hb1; assumption))
      (first | (go_at_call 14; refine (hL.out _ (by assumption)).mono ?_; rintro e w1 ⟨rfl, hb1⟩) | (go_at_call 15; refine (hR.out _ (by assumption)).mono ?_; rintro e w1 ⟨rfl, hb1⟩) | (go_at_call 16; refine (hBB.out _ _ (by assumption)).mono ?_; rintro e w1 ⟨rfl, hb1⟩) | (go_at_call 17; refine (hRB.out _ _ (by assumption)).mono ?_; rintro e w1 ⟨rfl, hb1⟩) | (go_at_call 13; refine (hA.out _ (by assumption)).mono ?_; rintro e w1 ⟨rfl, hb1⟩))
    have hfin : W2 a b w w1 := by assumption
    have HB := Lib.hid hfin.2.2.2
    clear hfin
    go_wp2
    go_ret
    exact ⟨rfl, HB.out⟩
  · obtain rfl : k = 200 := by omega
    clear hml hm3
    go_enter Tryd.func4, Tryd.ntmps4
    go_wp2_with fail
    go_region_held3 (fun W => (W.cell? ⟨w.heap.size, 0, none⟩ = some (.int .i64 a.p1) ∧ W.cell? ⟨w.heap.size, 1, none⟩ = some (.int .i64 a.cls) ∧ W.cell? ⟨w.heap.size, 2, none⟩ = some (.int .i64 a.acc) ∧ W.cell? ⟨w.heap.size, 3, none⟩ = some (.int .i64 a.vr) ∧ W.cell? ⟨w.heap.size, 4, none⟩ = some (.int .i64 a.p2) ∧ W.cell? ⟨w.heap.size, 5, none⟩ = some (.int .u64 a.gm) ∧ W.cell? ⟨w.heap.size, 6, none⟩ = some (.int .i64 a.steps) ∧ W.cell? ⟨w.heap.size, 7, none⟩ = some (.int .u64 a.snd) ∧ W.cell? ⟨w.heap.size, 8, none⟩ = some (.int .i64 a.sp) ∧ W.cell? ⟨w.heap.size, 9, none⟩ = some (.int .u64 a.rcv) ∧ W.cell? ⟨w.heap.size, 10, none⟩ = some (.int .i64 a.rp)) ∧ (W.cell? ⟨w.heap.size + 1, 0, none⟩ = some (.int .i64 b.p1) ∧ W.cell? ⟨w.heap.size + 1, 1, none⟩ = some (.int .i64 b.cls) ∧ W.cell? ⟨w.heap.size + 1, 2, none⟩ = some (.int .i64 b.acc) ∧ W.cell? ⟨w.heap.size + 1, 3, none⟩ = some (.int .i64 b.vr) ∧ W.cell? ⟨w.heap.size + 1, 4, none⟩ = some (.int .i64 b.p2) ∧ W.cell? ⟨w.heap.size + 1, 5, none⟩ = some (.int .u64 b.gm) ∧ W.cell? ⟨w.heap.size + 1, 6, none⟩ = some (.int .i64 b.steps) ∧ W.cell? ⟨w.heap.size + 1, 7, none⟩ = some (.int .u64 b.snd) ∧ W.cell? ⟨w.heap.size + 1, 8, none⟩ = some (.int .i64 b.sp) ∧ W.cell? ⟨w.heap.size + 1, 9, none⟩ = some (.int .u64 b.rcv) ∧ W.cell? ⟨w.heap.size + 1, 10, none⟩ = some (.int .i64 b.rp)) ∧ w.heap.size + 2 ≤ W.heap.size ∧ Below w.heap.size w W)
      (first | assumption | exact HD.out _ _ | (show W2 a b w _; refine W2.step ?_ hb1; assumption))
      (first | (go_at_call 14; refine (hL.out _ (by assumption)).mono ?_; rintro e w1 ⟨rfl, hb1⟩) | (go_at_call 15; refine (hR.out _ (by assumption)).mono ?_; rintro e w1 ⟨rfl, hb1⟩) | (go_at_call 16; refine (hBB.out _ _ (by assumption)).mono ?_; rintro e w1 ⟨rfl, hb1⟩) | (go_at_call 17; refine (hRB.out _ _ (by assumption)).mono ?_; rintro e w1 ⟨rfl, hb1⟩) | (go_at_call 13; refine (hA.out _ (by assumption)).mono ?_; rintro e w1 ⟨rfl, hb1⟩))
    have hfin : W2 a b w w1 := by assumption
    have HB := Lib.hid hfin.2.2.2
    clear hfin
    go_wp2
    go_ret
    exact ⟨rfl, HB.out⟩
end Go.Proofs.YtljcmjcfebpkoaaDoor
