/- The walk of layer 34's law DatasetSteps. -/
import Derived.Test.YtljcmjcfebpkoaaDoorDsLawsA
namespace Go.Proofs.YtljcmjcfebpkoaaDoor
set_option linter.unusedVariables false
open Go.RowKit
open DsLaw (I64 U64 cmpI lexF lt rk)

def stepR (d : DS) (snd sp rcv rp : Int) : DS := if d.steps < 32 then stepDS d snd sp rcv rp else DsLaw.z
def stepE (d : DS) : Int := if d.steps < 32 then 0 else 3
theorem step_c (d : DS) (hd : DsLaw.Ok d) (snd sp rcv rp : Int) (w : World) (r : DS) (e : Int) (hr : r = stepR d snd sp rcv rp) (he : e = stepE d) :
    Calls Tryd.prog 19 #[(.agg #[.int .i64 d.p1, .int .i64 d.cls, .int .i64 d.acc, .int .i64 d.vr, .int .i64 d.p2, .int .u64 d.gm, .int .i64 d.steps, .int .u64 d.snd, .int .i64 d.sp, .int .u64 d.rcv, .int .i64 d.rp]), .int .u64 snd, .int .i64 sp, .int .u64 rcv, .int .i64 rp] w fun en w' => en = .returned (.tuple #[(.agg #[.int .i64 r.p1, .int .i64 r.cls, .int .i64 r.acc, .int .i64 r.vr, .int .i64 r.p2, .int .u64 r.gm, .int .i64 r.steps, .int .u64 r.snd, .int .i64 r.sp, .int .u64 r.rcv, .int .i64 r.rp]), .int .i64 e]) ∧ Below w.heap.size w w' := by
  subst hr he
  by_cases h : d.steps < 32
  · simp only [stepR, stepE, if_pos h]
    exact step_any d snd sp rcv rp w h hd.steps.1
  · simp only [stepR, stepE, if_neg h]
    exact step_no d snd sp rcv rp w (by omega)
theorem r_step_c (d : DS) (hd : DsLaw.Ok d) (snd sp rcv rp : Int) (w : World) (r : DS) (e : Int) (hr : r = stepR d snd sp rcv rp) (he : e = stepE d) :
    Calls Tryd.prog 20 #[(.agg #[.int .i64 d.p1, .int .i64 d.cls, .int .i64 d.acc, .int .i64 d.vr, .int .i64 d.p2, .int .u64 d.gm, .int .i64 d.steps, .int .u64 d.snd, .int .i64 d.sp, .int .u64 d.rcv, .int .i64 d.rp]), .int .u64 snd, .int .i64 sp, .int .u64 rcv, .int .i64 rp] w fun en w' => en = .returned (.tuple #[(.agg #[.int .i64 r.p1, .int .i64 r.cls, .int .i64 r.acc, .int .i64 r.vr, .int .i64 r.p2, .int .u64 r.gm, .int .i64 r.steps, .int .u64 r.snd, .int .i64 r.sp, .int .u64 r.rcv, .int .i64 r.rp]), .int .i64 e]) ∧ Below w.heap.size w w' := by
  subst hr he
  by_cases h : d.steps < 32
  · simp only [stepR, stepE, if_pos h]
    exact r_step_any d snd sp rcv rp w h hd.steps.1
  · simp only [stepR, stepE, if_neg h]
    exact r_step_no d snd sp rcv rp w (by omega)

/-- The boxes of the three arguments. -/
def P3 (d : DS) (q0 q1 q2 q3 q4 hs hr hp hq : Int) (w W : World) : Prop := (W.cell? ⟨w.heap.size, 0, none⟩ = some (.int .i64 d.p1) ∧ W.cell? ⟨w.heap.size, 1, none⟩ = some (.int .i64 d.cls) ∧ W.cell? ⟨w.heap.size, 2, none⟩ = some (.int .i64 d.acc) ∧ W.cell? ⟨w.heap.size, 3, none⟩ = some (.int .i64 d.vr) ∧ W.cell? ⟨w.heap.size, 4, none⟩ = some (.int .i64 d.p2) ∧ W.cell? ⟨w.heap.size, 5, none⟩ = some (.int .u64 d.gm) ∧ W.cell? ⟨w.heap.size, 6, none⟩ = some (.int .i64 d.steps) ∧ W.cell? ⟨w.heap.size, 7, none⟩ = some (.int .u64 d.snd) ∧ W.cell? ⟨w.heap.size, 8, none⟩ = some (.int .i64 d.sp) ∧ W.cell? ⟨w.heap.size, 9, none⟩ = some (.int .u64 d.rcv) ∧ W.cell? ⟨w.heap.size, 10, none⟩ = some (.int .i64 d.rp)) ∧ (W.cell? ⟨w.heap.size + 1, 0, none⟩ = some (.int .i64 q0) ∧ W.cell? ⟨w.heap.size + 1, 1, none⟩ = some (.int .i64 q1) ∧ W.cell? ⟨w.heap.size + 1, 2, none⟩ = some (.int .i64 q2) ∧ W.cell? ⟨w.heap.size + 1, 3, none⟩ = some (.int .i64 q3) ∧ W.cell? ⟨w.heap.size + 1, 4, none⟩ = some (.int .i64 q4)) ∧ (W.cell? ⟨w.heap.size + 1 + 1, 0, none⟩ = some (.int .u64 hs) ∧ W.cell? ⟨w.heap.size + 1 + 1, 1, none⟩ = some (.int .u64 hr) ∧ W.cell? ⟨w.heap.size + 1 + 1, 2, none⟩ = some (.int .i64 hp) ∧ W.cell? ⟨w.heap.size + 1 + 1, 3, none⟩ = some (.int .i64 hq)) ∧ w.heap.size + 3 ≤ W.heap.size ∧ Below w.heap.size w W
theorem P3.step {d : DS} {q0 q1 q2 q3 q4 hs hr hp hq : Int} {w W W1 : World} (h : P3 d q0 q1 q2 q3 q4 hs hr hp hq w W) (hb : Below W.heap.size W W1) : P3 d q0 q1 q2 q3 q4 hs hr hp hq w W1 := by
  obtain ⟨h1, ⟨c0, c1, c2, c3, c4⟩, ⟨g0, g1, g2, g3⟩, h5, h6⟩ := h
  have k1 : ∀ o, W1.cell? ⟨w.heap.size + 1, o, none⟩ = W.cell? ⟨w.heap.size + 1, o, none⟩ := fun o => hb.cell (p := ⟨w.heap.size + 1, o, none⟩) (show w.heap.size + 1 < _ by omega)
  have k2 : ∀ o, W1.cell? ⟨w.heap.size + 1 + 1, o, none⟩ = W.cell? ⟨w.heap.size + 1 + 1, o, none⟩ := fun o => hb.cell (p := ⟨w.heap.size + 1 + 1, o, none⟩) (show w.heap.size + 1 + 1 < _ by omega)
  exact ⟨(rangeAt_ds ..).1 (rangeAt_below ((rangeAt_ds ..).2 h1) hb (by omega)), ⟨(k1 0).trans c0, (k1 1).trans c1, (k1 2).trans c2, (k1 3).trans c3, (k1 4).trans c4⟩, ⟨(k2 0).trans g0, (k2 1).trans g1, (k2 2).trans g2, (k2 3).trans g3⟩,
    Nat.le_trans h5 hb.size, h6.trans (hb.mono (by omega))⟩
theorem P3.new (d : DS) (q0 q1 q2 q3 q4 hs hr hp hq : Int) (w : World) (t1 t2 t3 : TypeId) : P3 d q0 q1 q2 q3 q4 hs hr hp hq w (((w.alloc (.cells #[.int .i64 d.p1, .int .i64 d.cls, .int .i64 d.acc, .int .i64 d.vr, .int .i64 d.p2, .int .u64 d.gm, .int .i64 d.steps, .int .u64 d.snd, .int .i64 d.sp, .int .u64 d.rcv, .int .i64 d.rp] t1)).alloc (.cells #[.int .i64 q0, .int .i64 q1, .int .i64 q2, .int .i64 q3, .int .i64 q4] t2)).alloc (.cells #[.int .u64 hs, .int .u64 hr, .int .i64 hp, .int .i64 hq] t3)) := by
  refine ⟨(rangeAt_ds ..).1 (rangeAt_alloc (rangeAt_alloc (rangeAt_new _ _ [.int .i64 d.p1, .int .i64 d.cls, .int .i64 d.acc, .int .i64 d.vr, .int .i64 d.p2, .int .u64 d.gm, .int .i64 d.steps, .int .u64 d.snd, .int .i64 d.sp, .int .u64 d.rcv, .int .i64 d.rp] _ rfl) (by simp) _) (by simp; omega) _), ?_, ?_, by simp, (((Below.refl _ _).alloc (Nat.le_refl _) _).alloc (by simp) _).alloc (by simp; omega) _⟩
  · simp [go_sem]
  · simp [go_sem]
def P5 (r : DS) (g7 g9 : Nat) (d : DS) (q0 q1 q2 q3 q4 hs hr hp hq : Int) (w W : World) : Prop := (W.cell? ⟨g7, 0, none⟩ = some (.int .i64 r.p1) ∧ W.cell? ⟨g7, 1, none⟩ = some (.int .i64 r.cls) ∧ W.cell? ⟨g7, 2, none⟩ = some (.int .i64 r.acc) ∧ W.cell? ⟨g7, 3, none⟩ = some (.int .i64 r.vr) ∧ W.cell? ⟨g7, 4, none⟩ = some (.int .i64 r.p2) ∧ W.cell? ⟨g7, 5, none⟩ = some (.int .u64 r.gm) ∧ W.cell? ⟨g7, 6, none⟩ = some (.int .i64 r.steps) ∧ W.cell? ⟨g7, 7, none⟩ = some (.int .u64 r.snd) ∧ W.cell? ⟨g7, 8, none⟩ = some (.int .i64 r.sp) ∧ W.cell? ⟨g7, 9, none⟩ = some (.int .u64 r.rcv) ∧ W.cell? ⟨g7, 10, none⟩ = some (.int .i64 r.rp)) ∧ (W.cell? ⟨g9, 0, none⟩ = some (.int .i64 r.p1) ∧ W.cell? ⟨g9, 1, none⟩ = some (.int .i64 r.cls) ∧ W.cell? ⟨g9, 2, none⟩ = some (.int .i64 r.acc) ∧ W.cell? ⟨g9, 3, none⟩ = some (.int .i64 r.vr) ∧ W.cell? ⟨g9, 4, none⟩ = some (.int .i64 r.p2) ∧ W.cell? ⟨g9, 5, none⟩ = some (.int .u64 r.gm) ∧ W.cell? ⟨g9, 6, none⟩ = some (.int .i64 r.steps) ∧ W.cell? ⟨g9, 7, none⟩ = some (.int .u64 r.snd) ∧ W.cell? ⟨g9, 8, none⟩ = some (.int .i64 r.sp) ∧ W.cell? ⟨g9, 9, none⟩ = some (.int .u64 r.rcv) ∧ W.cell? ⟨g9, 10, none⟩ = some (.int .i64 r.rp)) ∧ g7 < W.heap.size ∧ g9 < W.heap.size ∧ P3 d q0 q1 q2 q3 q4 hs hr hp hq w W
theorem P5.step {r : DS} {g7 g9 : Nat} {d : DS} {q0 q1 q2 q3 q4 hs hr hp hq : Int} {w W W1 : World} (h : P5 r g7 g9 d q0 q1 q2 q3 q4 hs hr hp hq w W) (hb : Below W.heap.size W W1) : P5 r g7 g9 d q0 q1 q2 q3 q4 hs hr hp hq w W1 := by
  obtain ⟨h1, h2, h3, h4, h5⟩ := h
  exact ⟨(rangeAt_ds ..).1 (rangeAt_below ((rangeAt_ds ..).2 h1) hb h3), (rangeAt_ds ..).1 (rangeAt_below ((rangeAt_ds ..).2 h2) hb h4), Nat.lt_of_lt_of_le h3 hb.size, Nat.lt_of_lt_of_le h4 hb.size, h5.step hb⟩
attribute [local go_sem ↓] eql_ds neq_ds
set_option maxHeartbeats 2000000 in
theorem steps_walk (d : DS) (q0 q1 q2 q3 q4 hs hr hp hq : Int) (hd : DsLaw.Ok d) (w : World) (hF : Fields w) :
    Calls Tryd.prog 8 #[(.agg #[.int .i64 d.p1, .int .i64 d.cls, .int .i64 d.acc, .int .i64 d.vr, .int .i64 d.p2, .int .u64 d.gm, .int .i64 d.steps, .int .u64 d.snd, .int .i64 d.sp, .int .u64 d.rcv, .int .i64 d.rp]), .agg #[.int .i64 q0, .int .i64 q1, .int .i64 q2, .int .i64 q3, .int .i64 q4], .agg #[.int .u64 hs, .int .u64 hr, .int .i64 hp, .int .i64 hq]] w fun e w' => e = .returned (.bool true) ∧ Below w.heap.size w w' := by
  obtain ⟨r, hrr⟩ : ∃ r, r = stepR d hs hp hr hq := ⟨_, rfl⟩
  obtain ⟨en, hen⟩ : ∃ en, en = stepE d := ⟨_, rfl⟩
  have hS := Lib.hid (fun (W : World) => step_c d hd hs hp hr hq W r en hrr hen)
  have hR := Lib.hid (fun (W : World) => r_step_c d hd hs hp hr hq W r en hrr hen)
  have hA := Lib.hid (fun (W : World) (g7 g9 : Nat) (h : P5 r g7 g9 d q0 q1 q2 q3 q4 hs hr hp hq w W) => awake_any W (hF.below h.2.2.2.2.2.2.2.2 hF.lt))
  have HN := Lib.hid (P3.new d q0 q1 q2 q3 q4 hs hr hp hq w)
  clear hrr hen hF
  go_enter Tryd.func8, Tryd.ntmps8
  go_wp2_with fail
  refine (hS.out _).mono ?_
  rintro e w1 ⟨rfl, hb1⟩
  have H1 := Lib.hid ((HN.out _ _ _).step hb1)
  have hI := H1.out
  obtain ⟨⟨c0, c1, c2, c3, c4, c5, c6, c7, c8, c9, c10⟩, ⟨d0, d1, d2, d3, d4⟩, ⟨g0, g1, g2, g3⟩, hz1, hB1⟩ := hI
  have hne : w.heap.size < w1.heap.size := by omega
  have hne1 : w.heap.size + 1 < w1.heap.size := by omega
  have hne2 : w.heap.size + 1 + 1 < w1.heap.size := by omega
  clear hb1 HN hB1 hz1
  go_wp2_with fail
  refine (hR.out _).mono ?_
  rintro e w2 ⟨rfl, hb2⟩
  have H2 : P5 r w1.heap.size w2.heap.size d q0 q1 q2 q3 q4 hs hr hp hq w (w2.alloc (.cells #[.int .i64 r.p1, .int .i64 r.cls, .int .i64 r.acc, .int .i64 r.vr, .int .i64 r.p2, .int .u64 r.gm, .int .i64 r.steps, .int .u64 r.snd, .int .i64 r.sp, .int .u64 r.rcv, .int .i64 r.rp] 24)) := by
    have hsz := hb2.size
    simp only [World.size_alloc] at hsz
    refine ⟨(rangeAt_ds ..).1 (rangeAt_alloc (rangeAt_below (rangeAt_new _ _ [.int .i64 r.p1, .int .i64 r.cls, .int .i64 r.acc, .int .i64 r.vr, .int .i64 r.p2, .int .u64 r.gm, .int .i64 r.steps, .int .u64 r.snd, .int .i64 r.sp, .int .u64 r.rcv, .int .i64 r.rp] _ rfl) hb2 (by simp)) (by omega) _), (rangeAt_ds ..).1 (rangeAt_new _ _ [.int .i64 r.p1, .int .i64 r.cls, .int .i64 r.acc, .int .i64 r.vr, .int .i64 r.p2, .int .u64 r.gm, .int .i64 r.steps, .int .u64 r.snd, .int .i64 r.sp, .int .u64 r.rcv, .int .i64 r.rp] _ rfl), by simp; omega, by simp, (H1.out.step (((Below.refl _ _).alloc (Nat.le_refl _) _).trans (hb2.mono (by simp)))).step ((Below.refl _ _).alloc (Nat.le_refl _) _)⟩
  have HD := Lib.hid (H2.step (drew1 _))
  have HP : P5 r w1.heap.size w2.heap.size d q0 q1 q2 q3 q4 hs hr hp hq w (w2.alloc (.cells #[.int .i64 r.p1, .int .i64 r.cls, .int .i64 r.acc, .int .i64 r.vr, .int .i64 r.p2, .int .u64 r.gm, .int .i64 r.steps, .int .u64 r.snd, .int .i64 r.sp, .int .u64 r.rcv, .int .i64 r.rp] 24)).drew := H2.step (drew1 _)
  have HP := Lib.hid HP
  have H2 := Lib.hid H2
  clear HD H1 hb2 c0 c1 c2 c3 c4 c5 c6 c7 c8 c9 c10 d0 d1 d2 d3 d4 g0 g1 g2 g3
  clear hne hne1 hne2
  go_wp2_with fail
  obtain ⟨g7, hg7⟩ : ∃ g, g = w1.heap.size := ⟨_, rfl⟩
  obtain ⟨g9, hg9⟩ : ∃ g, g = w2.heap.size := ⟨_, rfl⟩
  rw [← hg7, ← hg9] at HP
  rw [← hg7, ← hg9]
  have HG7 := Lib.hid hg7
  have HG9 := Lib.hid hg9
  clear hg7 hg9 H2
  go_region_held3 (fun W => (W.cell? ⟨g7, 0, none⟩ = some (.int .i64 r.p1) ∧ W.cell? ⟨g7, 1, none⟩ = some (.int .i64 r.cls) ∧ W.cell? ⟨g7, 2, none⟩ = some (.int .i64 r.acc) ∧ W.cell? ⟨g7, 3, none⟩ = some (.int .i64 r.vr) ∧ W.cell? ⟨g7, 4, none⟩ = some (.int .i64 r.p2) ∧ W.cell? ⟨g7, 5, none⟩ = some (.int .u64 r.gm) ∧ W.cell? ⟨g7, 6, none⟩ = some (.int .i64 r.steps) ∧ W.cell? ⟨g7, 7, none⟩ = some (.int .u64 r.snd) ∧ W.cell? ⟨g7, 8, none⟩ = some (.int .i64 r.sp) ∧ W.cell? ⟨g7, 9, none⟩ = some (.int .u64 r.rcv) ∧ W.cell? ⟨g7, 10, none⟩ = some (.int .i64 r.rp)) ∧ (W.cell? ⟨g9, 0, none⟩ = some (.int .i64 r.p1) ∧ W.cell? ⟨g9, 1, none⟩ = some (.int .i64 r.cls) ∧ W.cell? ⟨g9, 2, none⟩ = some (.int .i64 r.acc) ∧ W.cell? ⟨g9, 3, none⟩ = some (.int .i64 r.vr) ∧ W.cell? ⟨g9, 4, none⟩ = some (.int .i64 r.p2) ∧ W.cell? ⟨g9, 5, none⟩ = some (.int .u64 r.gm) ∧ W.cell? ⟨g9, 6, none⟩ = some (.int .i64 r.steps) ∧ W.cell? ⟨g9, 7, none⟩ = some (.int .u64 r.snd) ∧ W.cell? ⟨g9, 8, none⟩ = some (.int .i64 r.sp) ∧ W.cell? ⟨g9, 9, none⟩ = some (.int .u64 r.rcv) ∧ W.cell? ⟨g9, 10, none⟩ = some (.int .i64 r.rp)) ∧ g7 < W.heap.size ∧ g9 < W.heap.size ∧ (W.cell? ⟨w.heap.size, 0, none⟩ = some (.int .i64 d.p1) ∧ W.cell? ⟨w.heap.size, 1, none⟩ = some (.int .i64 d.cls) ∧ W.cell? ⟨w.heap.size, 2, none⟩ = some (.int .i64 d.acc) ∧ W.cell? ⟨w.heap.size, 3, none⟩ = some (.int .i64 d.vr) ∧ W.cell? ⟨w.heap.size, 4, none⟩ = some (.int .i64 d.p2) ∧ W.cell? ⟨w.heap.size, 5, none⟩ = some (.int .u64 d.gm) ∧ W.cell? ⟨w.heap.size, 6, none⟩ = some (.int .i64 d.steps) ∧ W.cell? ⟨w.heap.size, 7, none⟩ = some (.int .u64 d.snd) ∧ W.cell? ⟨w.heap.size, 8, none⟩ = some (.int .i64 d.sp) ∧ W.cell? ⟨w.heap.size, 9, none⟩ = some (.int .u64 d.rcv) ∧ W.cell? ⟨w.heap.size, 10, none⟩ = some (.int .i64 d.rp)) ∧ (W.cell? ⟨w.heap.size + 1, 0, none⟩ = some (.int .i64 q0) ∧ W.cell? ⟨w.heap.size + 1, 1, none⟩ = some (.int .i64 q1) ∧ W.cell? ⟨w.heap.size + 1, 2, none⟩ = some (.int .i64 q2) ∧ W.cell? ⟨w.heap.size + 1, 3, none⟩ = some (.int .i64 q3) ∧ W.cell? ⟨w.heap.size + 1, 4, none⟩ = some (.int .i64 q4)) ∧ (W.cell? ⟨w.heap.size + 1 + 1, 0, none⟩ = some (.int .u64 hs) ∧ W.cell? ⟨w.heap.size + 1 + 1, 1, none⟩ = some (.int .u64 hr) ∧ W.cell? ⟨w.heap.size + 1 + 1, 2, none⟩ = some (.int .i64 hp) ∧ W.cell? ⟨w.heap.size + 1 + 1, 3, none⟩ = some (.int .i64 hq)) ∧ w.heap.size + 3 ≤ W.heap.size ∧ Below w.heap.size w W)
    (first | assumption | exact HP.out | (show P5 r g7 g9 d q0 q1 q2 q3 q4 hs hr hp hq w _; refine P5.step ?_ hb1; assumption))
    (first | (go_at_call 21; refine (own_any _ _ _ _ _ _ _).mono ?_; rintro e w3 ⟨rfl, hb1⟩) | (go_at_call 22; refine (r_own_any _ _ _ _ _ _ _).mono ?_; rintro e w3 ⟨rfl, hb1⟩) | (go_at_call 13; refine (hA.out _ g7 g9 (by assumption)).mono ?_; rintro e w3 ⟨rfl, hb1⟩))
  have hfin : P5 r g7 g9 d q0 q1 q2 q3 q4 hs hr hp hq w w3 := by assumption
  have HB := Lib.hid hfin.2.2.2.2.2.2.2.2
  clear hfin
  go_wp2
  go_ret
  exact ⟨rfl, HB.out⟩
end Go.Proofs.YtljcmjcfebpkoaaDoor
