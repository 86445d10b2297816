/- The walk of layer 34's law DatasetQuality. -/
import Derived.Test.YtljcmjcfebpkoaaDoorDsLawsA
import Derived.Test.YtljcmjcfebpkoaaDoorDsLawM
import Derived.BigRegion
namespace Go.Proofs.YtljcmjcfebpkoaaDoor
set_option linter.unusedVariables false
open Go.RowKit
open DsLaw (I64 U64 cmpI lexF lt rk)

theorem below_drew {B : Nat} {a w : World} (h : Below B a w) : Below B a w.drew := below_drewN h 1
def Q2 (a b : DS) (hs hr hp hq : Int) (w W : World) : Prop := (W.cell? ⟨w.heap.size, 0, none⟩ = some (.int .i64 a.p1) ∧ W.cell? ⟨w.heap.size, 1, none⟩ = some (.int .i64 a.cls) ∧ W.cell? ⟨w.heap.size, 2, none⟩ = some (.int .i64 a.acc) ∧ W.cell? ⟨w.heap.size, 3, none⟩ = some (.int .i64 a.vr) ∧ W.cell? ⟨w.heap.size, 4, none⟩ = some (.int .i64 a.p2) ∧ W.cell? ⟨w.heap.size, 5, none⟩ = some (.int .u64 a.gm) ∧ W.cell? ⟨w.heap.size, 6, none⟩ = some (.int .i64 a.steps) ∧ W.cell? ⟨w.heap.size, 7, none⟩ = some (.int .u64 a.snd) ∧ W.cell? ⟨w.heap.size, 8, none⟩ = some (.int .i64 a.sp) ∧ W.cell? ⟨w.heap.size, 9, none⟩ = some (.int .u64 a.rcv) ∧ W.cell? ⟨w.heap.size, 10, none⟩ = some (.int .i64 a.rp)) ∧ (W.cell? ⟨w.heap.size + 1, 0, none⟩ = some (.int .i64 b.p1) ∧ W.cell? ⟨w.heap.size + 1, 1, none⟩ = some (.int .i64 b.cls) ∧ W.cell? ⟨w.heap.size + 1, 2, none⟩ = some (.int .i64 b.acc) ∧ W.cell? ⟨w.heap.size + 1, 3, none⟩ = some (.int .i64 b.vr) ∧ W.cell? ⟨w.heap.size + 1, 4, none⟩ = some (.int .i64 b.p2) ∧ W.cell? ⟨w.heap.size + 1, 5, none⟩ = some (.int .u64 b.gm) ∧ W.cell? ⟨w.heap.size + 1, 6, none⟩ = some (.int .i64 b.steps) ∧ W.cell? ⟨w.heap.size + 1, 7, none⟩ = some (.int .u64 b.snd) ∧ W.cell? ⟨w.heap.size + 1, 8, none⟩ = some (.int .i64 b.sp) ∧ W.cell? ⟨w.heap.size + 1, 9, none⟩ = some (.int .u64 b.rcv) ∧ W.cell? ⟨w.heap.size + 1, 10, none⟩ = some (.int .i64 b.rp)) ∧
  (W.cell? ⟨w.heap.size + 1 + 1, 0, none⟩ = some (.int .u64 hs) ∧ W.cell? ⟨w.heap.size + 1 + 1, 1, none⟩ = some (.int .u64 hr) ∧ W.cell? ⟨w.heap.size + 1 + 1, 2, none⟩ = some (.int .i64 hp) ∧ W.cell? ⟨w.heap.size + 1 + 1, 3, none⟩ = some (.int .i64 hq)) ∧
  (∀ o, o < 11 → W.frozen? ⟨w.heap.size, o, none⟩ = false) ∧ w.heap.size + 3 ≤ W.heap.size ∧ Below w.heap.size w W
theorem Q2.step {a b : DS} {hs hr hp hq : Int} {w W W1 : World} (h : Q2 a b hs hr hp hq w W) (hb : Below W.heap.size W W1) : Q2 a b hs hr hp hq w W1 := by
  obtain ⟨h1, h2, ⟨g0, g1, g2, g3⟩, h4, h5, h6⟩ := h
  have hk : ∀ o, W1.cell? ⟨w.heap.size + 1 + 1, o, none⟩ = W.cell? ⟨w.heap.size + 1 + 1, o, none⟩ := fun o => hb.cell (p := ⟨w.heap.size + 1 + 1, o, none⟩) (show w.heap.size + 1 + 1 < _ by omega)
  exact ⟨(rangeAt_ds ..).1 (rangeAt_below ((rangeAt_ds ..).2 h1) hb (by omega)), (rangeAt_ds ..).1 (rangeAt_below ((rangeAt_ds ..).2 h2) hb (by omega)), ⟨(hk 0).trans g0, (hk 1).trans g1, (hk 2).trans g2, (hk 3).trans g3⟩,
    fun o ho => (hb.frozen (p := ⟨w.heap.size, o, none⟩) (show w.heap.size < _ by omega)).trans (h4 o ho), Nat.le_trans h5 hb.size, h6.trans (hb.mono (by omega))⟩
theorem Q2.new (a b : DS) (hs hr hp hq : Int) (w : World) (t1 t2 t3 : TypeId) : Q2 a b hs hr hp hq w (((w.alloc (.cells #[.int .i64 a.p1, .int .i64 a.cls, .int .i64 a.acc, .int .i64 a.vr, .int .i64 a.p2, .int .u64 a.gm, .int .i64 a.steps, .int .u64 a.snd, .int .i64 a.sp, .int .u64 a.rcv, .int .i64 a.rp] t1)).alloc (.cells #[.int .i64 b.p1, .int .i64 b.cls, .int .i64 b.acc, .int .i64 b.vr, .int .i64 b.p2, .int .u64 b.gm, .int .i64 b.steps, .int .u64 b.snd, .int .i64 b.sp, .int .u64 b.rcv, .int .i64 b.rp] t2)).alloc (.cells #[.int .u64 hs, .int .u64 hr, .int .i64 hp, .int .i64 hq] t3)) := by
  refine ⟨(rangeAt_ds ..).1 (rangeAt_alloc (rangeAt_alloc (rangeAt_new _ _ [.int .i64 a.p1, .int .i64 a.cls, .int .i64 a.acc, .int .i64 a.vr, .int .i64 a.p2, .int .u64 a.gm, .int .i64 a.steps, .int .u64 a.snd, .int .i64 a.sp, .int .u64 a.rcv, .int .i64 a.rp] _ rfl) (by simp) _) (by simp; omega) _), (rangeAt_ds ..).1 (rangeAt_alloc (rangeAt_new _ _ [.int .i64 b.p1, .int .i64 b.cls, .int .i64 b.acc, .int .i64 b.vr, .int .i64 b.p2, .int .u64 b.gm, .int .i64 b.steps, .int .u64 b.snd, .int .i64 b.sp, .int .u64 b.rcv, .int .i64 b.rp] _ (by simp)) (by simp) _), ?_, fun o ho => ?_, by simp, (((Below.refl _ _).alloc (Nat.le_refl _) _).alloc (by simp) _).alloc (by simp; omega) _⟩
  · simp [go_sem]
  · simp [go_sem]

set_option maxHeartbeats 2000000 in
theorem quality_walk (a b : DS) (hs hr hp hq : Int) (ha : DsLaw.Ok a) (hb : DsLaw.Ok b) (ws : U64 hs) (wr : U64 hr) (wp : I64 hp) (wq : I64 hq) (w : World) (hF : Fields w) :
    Calls Tryd.prog 6 #[(.agg #[.int .i64 a.p1, .int .i64 a.cls, .int .i64 a.acc, .int .i64 a.vr, .int .i64 a.p2, .int .u64 a.gm, .int .i64 a.steps, .int .u64 a.snd, .int .i64 a.sp, .int .u64 a.rcv, .int .i64 a.rp]), (.agg #[.int .i64 b.p1, .int .i64 b.cls, .int .i64 b.acc, .int .i64 b.vr, .int .i64 b.p2, .int .u64 b.gm, .int .i64 b.steps, .int .u64 b.snd, .int .i64 b.sp, .int .u64 b.rcv, .int .i64 b.rp]), .agg #[.int .u64 hs, .int .u64 hr, .int .i64 hp, .int .i64 hq]] w fun e w' => e = .returned (.bool true) ∧ Below w.heap.size w w' := by
  have HN := Lib.hid (Q2.new a b hs hr hp hq w)
  have HF := Lib.hid (fun (W : World) (h : Q2 a b hs hr hp hq w W) => hF.below h.2.2.2.2.2 hF.lt)
  have HFB := Lib.hid (fun (W : World) (h : Below w.heap.size w W) => hF.below h hF.lt)
  clear hF
  by_cases hg : a.gm = b.gm
  · have hg' : (a.gm == b.gm) = true := by simpa using hg
    clear hg
    go_enter Tryd.func6, Tryd.ntmps6
    go_wp2_with (go_at_call 13; refine (awake_any _ (HF.out _ (HN.out _ _ _))).mono ?_; rintro e w1 ⟨rfl, hb1⟩)
    go_ret
    exact ⟨rfl, (HN.out _ _ _).2.2.2.2.2.trans (hb1.mono (HN.out _ _ _).2.2.2.2.2.size)⟩
  · have hg' : (a.gm == b.gm) = false := by simpa using hg
    have hC := DsLaw.cmp_gm a b hg
    have hP := DsLaw.cmp_path a b hp hs hq hr hp hg
    have hok : DsLaw.Ok (DsLaw.path a hp hs hq hr hp) := ⟨ha.p1, ha.cls, ha.acc, ha.vr, ha.p2, ha.gm, wp, ws, wq, wr, wp⟩
    have c1 := Lib.hid (fun (W : World) (h : Q2 a b hs hr hp hq w W) => hC ▸ compare_any a b ha hb W (HF.out W h))
    have c2 := Lib.hid (fun (W : World) (h : Q2 a b hs hr hp hq w W) => less_any a b ha hb W (HF.out W h))
    have c3 := Lib.hid (fun (W : World) (h : Fields W) => (hP.trans hC) ▸ compare_any (DsLaw.path a hp hs hq hr hp) b hok hb W h)
    clear hC hP hg
    by_cases hl : lt a b
    all_goals
      simp only [hl, if_true, if_false] at c1 c3
      go_enter Tryd.func6, Tryd.ntmps6
      go_wp2_with fail
      refine (c1.out _ (HN.out _ _ _)).mono ?_
      rintro e w1 ⟨rfl, hb1⟩
      have H1 := Lib.hid ((HN.out _ _ _).step hb1)
      have hI := H1.out
      obtain ⟨⟨c0, c1', c2', c3', c4, c5, c6, c7, c8, c9, c10⟩, ⟨d0, d1, d2, d3, d4, d5, d6, d7, d8, d9, d10⟩, ⟨g0, g1, g2, g3⟩, HX⟩ := hI
      clear HX hb1
      go_wp2_with fail
      refine (c2.out _ H1.out).mono ?_
      rintro e w2 ⟨rfl, hb2⟩
      have H2 := Lib.hid (H1.out.step hb2)
      clear c0 c1' c2' c3' c4 c5 c6 c7 c8 c9 c10 d0 d1 d2 d3 d4 d5 d6 d7 d8 d9 d10 g0 g1 g2 g3 hb2 H1
      have hI := H2.out
      obtain ⟨⟨c0, c1', c2', c3', c4, c5, c6, c7, c8, c9, c10⟩, ⟨d0, d1, d2, d3, d4, d5, d6, d7, d8, d9, d10⟩, ⟨g0, g1, g2, g3⟩, HX, _, _⟩ := hI
      have f6 := HX 6 (by omega)
      have f7 := HX 7 (by omega)
      have f8 := HX 8 (by omega)
      have f9 := HX 9 (by omega)
      have f10 := HX 10 (by omega)
      clear HX
      go_wp2_with fail
      go_region
      have HB2 := Lib.hid H2.out.2.2.2.2.2
      clear f6 f7 f8 f9 f10 g0 g1 g2 g3 H2
      go_wp2_with fail
      refine (c3.out _ (HFB.out _ ?_)).mono ?_
      · repeat (first | exact HB2.out | (refine Below.setCell ?_ (by simp) _) | (refine below_drew ?_))
      rintro e w3 ⟨rfl, hb3⟩
      have HB3 : Below w.heap.size w w3 := by
        refine Below.trans ?_ (hb3.mono ?_)
        · repeat (first | exact HB2.out | (refine Below.setCell ?_ (by simp) _) | (refine below_drew ?_))
        · have := HB2.out.size; simpa using this
      have HB3 := Lib.hid HB3
      clear hb3 HB2 c0 c1' c2' c3' c4 c5 c6 c7 c8 c9 c10 d0 d1 d2 d3 d4 d5 d6 d7 d8 d9 d10
      go_wp2_with (go_at_call 13; refine (awake_any _ (HFB.out _ HB3.out)).mono ?_; rintro e w4 ⟨rfl, hb4⟩)
      go_ret
      exact ⟨rfl, HB3.out.trans (hb4.mono HB3.out.size)⟩
end Go.Proofs.YtljcmjcfebpkoaaDoor
