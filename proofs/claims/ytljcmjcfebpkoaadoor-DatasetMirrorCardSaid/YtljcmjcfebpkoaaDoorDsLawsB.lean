/- The walk of layer 34's law DatasetMirror. -/
import Derived.Test.YtljcmjcfebpkoaaDoorDsLawsA
import Derived.Test.YtljcmjcfebpkoaaDoorDsLawM
namespace Go.Proofs.YtljcmjcfebpkoaaDoor
set_option linter.unusedVariables false
open Go.RowKit
open DsLaw (I64 U64 cmpI lexF lt rk)

/-- Two boxed data sets, and a place of the table of mirrored results. -/
def M2 (a b : DS) (n : Nat) (w W : World) : Prop := (W.cell? ⟨w.heap.size, 0, none⟩ = some (.int .i64 a.p1) ∧ W.cell? ⟨w.heap.size, 1, none⟩ = some (.int .i64 a.cls) ∧ W.cell? ⟨w.heap.size, 2, none⟩ = some (.int .i64 a.acc) ∧ W.cell? ⟨w.heap.size, 3, none⟩ = some (.int .i64 a.vr) ∧ W.cell? ⟨w.heap.size, 4, none⟩ = some (.int .i64 a.p2) ∧ W.cell? ⟨w.heap.size, 5, none⟩ = some (.int .u64 a.gm) ∧ W.cell? ⟨w.heap.size, 6, none⟩ = some (.int .i64 a.steps) ∧ W.cell? ⟨w.heap.size, 7, none⟩ = some (.int .u64 a.snd) ∧ W.cell? ⟨w.heap.size, 8, none⟩ = some (.int .i64 a.sp) ∧ W.cell? ⟨w.heap.size, 9, none⟩ = some (.int .u64 a.rcv) ∧ W.cell? ⟨w.heap.size, 10, none⟩ = some (.int .i64 a.rp)) ∧ (W.cell? ⟨w.heap.size + 1, 0, none⟩ = some (.int .i64 b.p1) ∧ W.cell? ⟨w.heap.size + 1, 1, none⟩ = some (.int .i64 b.cls) ∧ W.cell? ⟨w.heap.size + 1, 2, none⟩ = some (.int .i64 b.acc) ∧ W.cell? ⟨w.heap.size + 1, 3, none⟩ = some (.int .i64 b.vr) ∧ W.cell? ⟨w.heap.size + 1, 4, none⟩ = some (.int .i64 b.p2) ∧ W.cell? ⟨w.heap.size + 1, 5, none⟩ = some (.int .u64 b.gm) ∧ W.cell? ⟨w.heap.size + 1, 6, none⟩ = some (.int .i64 b.steps) ∧ W.cell? ⟨w.heap.size + 1, 7, none⟩ = some (.int .u64 b.snd) ∧ W.cell? ⟨w.heap.size + 1, 8, none⟩ = some (.int .i64 b.sp) ∧ W.cell? ⟨w.heap.size + 1, 9, none⟩ = some (.int .u64 b.rcv) ∧ W.cell? ⟨w.heap.size + 1, 10, none⟩ = some (.int .i64 b.rp)) ∧ W.cell? ⟨w.heap.size + 1 + 1, n, none⟩ = some (.int .i64 (DsLaw.mir n)) ∧ w.heap.size + 3 ≤ W.heap.size ∧ Below w.heap.size w W
theorem M2.step {a b : DS} {n : Nat} {w W W1 : World} (h : M2 a b n w W) (hb : Below W.heap.size W W1) : M2 a b n w W1 := by
  obtain ⟨h1, h2, h4, h5, h6⟩ := h
  exact ⟨(rangeAt_ds ..).1 (rangeAt_below ((rangeAt_ds ..).2 h1) hb (by omega)), (rangeAt_ds ..).1 (rangeAt_below ((rangeAt_ds ..).2 h2) hb (by omega)), (hb.cell (p := ⟨w.heap.size + 1 + 1, n, none⟩) (show w.heap.size + 1 + 1 < _ by omega)).trans h4, Nat.le_trans h5 hb.size, h6.trans (hb.mono (by omega))⟩
theorem M2.new (a b : DS) (n : Nat) (hn : n < 6) (w : World) (t1 t2 t3 : TypeId) : M2 a b n w (((w.alloc (.cells #[.int .i64 a.p1, .int .i64 a.cls, .int .i64 a.acc, .int .i64 a.vr, .int .i64 a.p2, .int .u64 a.gm, .int .i64 a.steps, .int .u64 a.snd, .int .i64 a.sp, .int .u64 a.rcv, .int .i64 a.rp] t1)).alloc (.cells #[.int .i64 b.p1, .int .i64 b.cls, .int .i64 b.acc, .int .i64 b.vr, .int .i64 b.p2, .int .u64 b.gm, .int .i64 b.steps, .int .u64 b.snd, .int .i64 b.sp, .int .u64 b.rcv, .int .i64 b.rp] t2)).alloc (.cells #[.int .i64 0, .int .i64 3, .int .i64 4, .int .i64 1, .int .i64 2, .int .i64 5] t3)) := by
  refine ⟨(rangeAt_ds ..).1 (rangeAt_alloc (rangeAt_alloc (rangeAt_new _ _ [.int .i64 a.p1, .int .i64 a.cls, .int .i64 a.acc, .int .i64 a.vr, .int .i64 a.p2, .int .u64 a.gm, .int .i64 a.steps, .int .u64 a.snd, .int .i64 a.sp, .int .u64 a.rcv, .int .i64 a.rp] _ rfl) (by simp) _) (by simp; omega) _), (rangeAt_ds ..).1 (rangeAt_alloc (rangeAt_new _ _ [.int .i64 b.p1, .int .i64 b.cls, .int .i64 b.acc, .int .i64 b.vr, .int .i64 b.p2, .int .u64 b.gm, .int .i64 b.steps, .int .u64 b.snd, .int .i64 b.sp, .int .u64 b.rcv, .int .i64 b.rp] _ (by simp)) (by simp) _), ?_, by simp, (((Below.refl _ _).alloc (Nat.le_refl _) _).alloc (by simp) _).alloc (by simp; omega) _⟩
  have := rangeAt_new ((w.alloc (.cells #[.int .i64 a.p1, .int .i64 a.cls, .int .i64 a.acc, .int .i64 a.vr, .int .i64 a.p2, .int .u64 a.gm, .int .i64 a.steps, .int .u64 a.snd, .int .i64 a.sp, .int .u64 a.rcv, .int .i64 a.rp] t1)).alloc (.cells #[.int .i64 b.p1, .int .i64 b.cls, .int .i64 b.acc, .int .i64 b.vr, .int .i64 b.p2, .int .u64 b.gm, .int .i64 b.steps, .int .u64 b.snd, .int .i64 b.sp, .int .u64 b.rcv, .int .i64 b.rp] t2)) t3 [.int .i64 0, .int .i64 3, .int .i64 4, .int .i64 1, .int .i64 2, .int .i64 5] (w.heap.size + 1 + 1) (by simp) n (.int .i64 (DsLaw.mir n)) (by match n, hn with | 0, _ => rfl | 1, _ => rfl | 2, _ => rfl | 3, _ => rfl | 4, _ => rfl | 5, _ => rfl)
  simpa using this

attribute [local go_sem ↓] eql_ds neq_ds
set_option maxHeartbeats 2000000 in
theorem mirror_walk (a b : DS) (ha : DsLaw.Ok a) (hb : DsLaw.Ok b) (w : World) (hF : Fields w) :
    Calls Tryd.prog 5 #[(.agg #[.int .i64 a.p1, .int .i64 a.cls, .int .i64 a.acc, .int .i64 a.vr, .int .i64 a.p2, .int .u64 a.gm, .int .i64 a.steps, .int .u64 a.snd, .int .i64 a.sp, .int .u64 a.rcv, .int .i64 a.rp]), (.agg #[.int .i64 b.p1, .int .i64 b.cls, .int .i64 b.acc, .int .i64 b.vr, .int .i64 b.p2, .int .u64 b.gm, .int .i64 b.steps, .int .u64 b.snd, .int .i64 b.sp, .int .u64 b.rcv, .int .i64 b.rp])] w fun e w' => e = .returned (.bool true) ∧ Below w.heap.size w w' := by
  obtain ⟨n, hn, hn6⟩ : ∃ n : Nat, DsLaw.cmp a b = n ∧ n < 6 := DsLaw.cmp_range a b
  have hAB := Lib.hid (fun (W : World) (h : Fields W) => hn ▸ compare_any a b ha hb W h)
  have hBA := Lib.hid (fun (W : World) (h : M2 a b n w W) => compare_any b a hb ha W (hF.below h.2.2.2.2 hF.lt))
  have hAA := Lib.hid (fun (W : World) (h : M2 a b n w W) => compare_any a a ha ha W (hF.below h.2.2.2.2 hF.lt))
  have hA := Lib.hid (fun (W : World) (h : M2 a b n w W) => awake_any W (hF.below h.2.2.2.2 hF.lt))
  have HN := Lib.hid (M2.new a b n hn6 w)
  have hm : DsLaw.cmp b a = DsLaw.mir n := DsLaw.cmp_mirror a b n hn
  have hs : (DsLaw.cmp a a == 0) = true := by simp [DsLaw.cmp]
  have he : ((n : Int) == 0) = decide (a = b) := by rw [← hn]; exact DsLaw.cmp_same a b
  have h0 : decide ((n : Int) < 0) = false := by simp
  have h5 : decide (5 < (n : Int)) = false := by simp; omega
  have hi0 : (0 : Int) ≤ (n : Int) := by omega
  have hi6 : (n : Int) < 6 := by omega
  rw [hm] at hBA
  have HF : ∀ o1 o2 o3, Fields (((w.alloc o1).alloc o2).alloc o3) := fun o1 o2 o3 => ((hF.alloc _).alloc _).alloc _
  have HF := Lib.hid HF
  have HE := Lib.hid he
  clear hF hm hn he
  go_enter Tryd.func5, Tryd.ntmps5
  go_wp2_with fail
  refine (hAB.out _ (HF.out _ _ _)).mono ?_
  rintro e w1 ⟨rfl, hb1⟩
  have HI := Lib.hid ((HN.out _ _ _).step hb1)
  have HD := Lib.hid (HI.out.step (drew1 _))
  clear hb1 HN
  by_cases hab : a = b
  · have he : ((n : Int) == 0) = true := by rw [HE.out]; simpa using hab
    have hab' : decide (a = b) = true := by simpa using hab
    clear hab
    go_wp2_with fail
    go_region_held3 (fun W => (W.cell? ⟨w.heap.size, 0, none⟩ = some (.int .i64 a.p1) ∧ W.cell? ⟨w.heap.size, 1, none⟩ = some (.int .i64 a.cls) ∧ W.cell? ⟨w.heap.size, 2, none⟩ = some (.int .i64 a.acc) ∧ W.cell? ⟨w.heap.size, 3, none⟩ = some (.int .i64 a.vr) ∧ W.cell? ⟨w.heap.size, 4, none⟩ = some (.int .i64 a.p2) ∧ W.cell? ⟨w.heap.size, 5, none⟩ = some (.int .u64 a.gm) ∧ W.cell? ⟨w.heap.size, 6, none⟩ = some (.int .i64 a.steps) ∧ W.cell? ⟨w.heap.size, 7, none⟩ = some (.int .u64 a.snd) ∧ W.cell? ⟨w.heap.size, 8, none⟩ = some (.int .i64 a.sp) ∧ W.cell? ⟨w.heap.size, 9, none⟩ = some (.int .u64 a.rcv) ∧ W.cell? ⟨w.heap.size, 10, none⟩ = some (.int .i64 a.rp)) ∧ (W.cell? ⟨w.heap.size + 1, 0, none⟩ = some (.int .i64 b.p1) ∧ W.cell? ⟨w.heap.size + 1, 1, none⟩ = some (.int .i64 b.cls) ∧ W.cell? ⟨w.heap.size + 1, 2, none⟩ = some (.int .i64 b.acc) ∧ W.cell? ⟨w.heap.size + 1, 3, none⟩ = some (.int .i64 b.vr) ∧ W.cell? ⟨w.heap.size + 1, 4, none⟩ = some (.int .i64 b.p2) ∧ W.cell? ⟨w.heap.size + 1, 5, none⟩ = some (.int .u64 b.gm) ∧ W.cell? ⟨w.heap.size + 1, 6, none⟩ = some (.int .i64 b.steps) ∧ W.cell? ⟨w.heap.size + 1, 7, none⟩ = some (.int .u64 b.snd) ∧ W.cell? ⟨w.heap.size + 1, 8, none⟩ = some (.int .i64 b.sp) ∧ W.cell? ⟨w.heap.size + 1, 9, none⟩ = some (.int .u64 b.rcv) ∧ W.cell? ⟨w.heap.size + 1, 10, none⟩ = some (.int .i64 b.rp)) ∧ W.cell? ⟨w.heap.size + 1 + 1, n, none⟩ = some (.int .i64 (DsLaw.mir n)) ∧ w.heap.size + 3 ≤ W.heap.size ∧ Below w.heap.size w W)
      (first | assumption | exact HD.out | (show M2 a b n w _; refine M2.step ?_ hb1; assumption))
      (first | (go_at_call 11; (with_reducible refine (hBA.out _ ?_).mono ?_); assumption; rintro e w1 ⟨rfl, hb1⟩) | (go_at_call 11; (with_reducible refine (hAA.out _ ?_).mono ?_); assumption; rintro e w1 ⟨rfl, hb1⟩) | (go_at_call 13; refine (hA.out _ (by assumption)).mono ?_; rintro e w1 ⟨rfl, hb1⟩))
    have hfin : M2 a b n w w1 := by assumption
    have HB := Lib.hid hfin.2.2.2.2
    clear hfin
    go_wp2
    go_ret
    exact ⟨rfl, HB.out⟩
  · have he : ((n : Int) == 0) = false := by rw [HE.out]; simpa using hab
    have hab' : decide (a = b) = false := by simpa using hab
    clear hab
    go_wp2_with fail
    go_region_held3 (fun W => (W.cell? ⟨w.heap.size, 0, none⟩ = some (.int .i64 a.p1) ∧ W.cell? ⟨w.heap.size, 1, none⟩ = some (.int .i64 a.cls) ∧ W.cell? ⟨w.heap.size, 2, none⟩ = some (.int .i64 a.acc) ∧ W.cell? ⟨w.heap.size, 3, none⟩ = some (.int .i64 a.vr) ∧ W.cell? ⟨w.heap.size, 4, none⟩ = some (.int .i64 a.p2) ∧ W.cell? ⟨w.heap.size, 5, none⟩ = some (.int .u64 a.gm) ∧ W.cell? ⟨w.heap.size, 6, none⟩ = some (.int .i64 a.steps) ∧ W.cell? ⟨w.heap.size, 7, none⟩ = some (.int .u64 a.snd) ∧ W.cell? ⟨w.heap.size, 8, none⟩ = some (.int .i64 a.sp) ∧ W.cell? ⟨w.heap.size, 9, none⟩ = some (.int .u64 a.rcv) ∧ W.cell? ⟨w.heap.size, 10, none⟩ = some (.int .i64 a.rp)) ∧ (W.cell? ⟨w.heap.size + 1, 0, none⟩ = some (.int .i64 b.p1) ∧ W.cell? ⟨w.heap.size + 1, 1, none⟩ = some (.int .i64 b.cls) ∧ W.cell? ⟨w.heap.size + 1, 2, none⟩ = some (.int .i64 b.acc) ∧ W.cell? ⟨w.heap.size + 1, 3, none⟩ = some (.int .i64 b.vr) ∧ W.cell? ⟨w.heap.size + 1, 4, none⟩ = some (.int .i64 b.p2) ∧ W.cell? ⟨w.heap.size + 1, 5, none⟩ = some (.int .u64 b.gm) ∧ W.cell? ⟨w.heap.size + 1, 6, none⟩ = some (.int .i64 b.steps) ∧ W.cell? ⟨w.heap.size + 1, 7, none⟩ = some (.int .u64 b.snd) ∧ W.cell? ⟨w.heap.size + 1, 8, none⟩ = some (.int .i64 b.sp) ∧ W.cell? ⟨w.heap.size + 1, 9, none⟩ = some (.int .u64 b.rcv) ∧ W.cell? ⟨w.heap.size + 1, 10, none⟩ = some (.int .i64 b.rp)) ∧ W.cell? ⟨w.heap.size + 1 + 1, n, none⟩ = some (.int .i64 (DsLaw.mir n)) ∧ w.heap.size + 3 ≤ W.heap.size ∧ Below w.heap.size w W)
      (first | assumption | exact HD.out | (show M2 a b n w _; refine M2.step ?_ hb1; assumption))
      (first | (go_at_call 11; (with_reducible refine (hBA.out _ ?_).mono ?_); assumption; rintro e w1 ⟨rfl, hb1⟩) | (go_at_call 11; (with_reducible refine (hAA.out _ ?_).mono ?_); assumption; rintro e w1 ⟨rfl, hb1⟩) | (go_at_call 13; refine (hA.out _ (by assumption)).mono ?_; rintro e w1 ⟨rfl, hb1⟩))
    have hfin : M2 a b n w w1 := by assumption
    have HB := Lib.hid hfin.2.2.2.2
    clear hfin
    go_wp2
    go_ret
    exact ⟨rfl, HB.out⟩
end Go.Proofs.YtljcmjcfebpkoaaDoor
