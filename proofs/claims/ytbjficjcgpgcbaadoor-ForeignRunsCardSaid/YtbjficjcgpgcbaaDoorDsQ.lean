/- The walk of Less of the reference of package dataset. -/
import Derived.Test.YtbjficjcgpgcbaaDoorDsP
namespace Go.Proofs.YtbjficjcgpgcbaaDoor
set_option linter.unusedVariables false
open Go.RowKit
open DsLaw (I64 U64 cmpI lexF lt rk)

theorem numbers_any (x y : Int) (w : World) : Calls Tryd.prog 37 #[.int .u64 x, .int .u64 y] w fun e w' => e = .returned (.int .i64 (cmpI x y)) ∧ w = w' := by
  rcases DsLaw.cmpI_cases x y with ⟨h, g⟩ | ⟨h, rfl⟩ | ⟨h, g⟩
  all_goals
    rw [h]
    clear h
    go_enter Tryd.func37, Tryd.ntmps37
    go_wp2
    go_ret
    exact ⟨rfl, rfl⟩
theorem ints_any (x y : Int) (w : World) : Calls Tryd.prog 36 #[.int .i64 x, .int .i64 y] w fun e w' => e = .returned (.int .i64 (cmpI x y)) ∧ w = w' := by
  rcases DsLaw.cmpI_cases x y with ⟨h, g⟩ | ⟨h, rfl⟩ | ⟨h, g⟩
  all_goals
    rw [h]
    clear h
    go_enter Tryd.func36, Tryd.ntmps36
    go_wp2
    go_ret
    exact ⟨rfl, rfl⟩

def OInv (a b : DS) (w wr : World) : Prop :=
  (∀ j : Nat, j < 5 → wr.cell? ⟨w.heap.size + 1 + 1, j, none⟩ = some (.int .i64 (DsLaw.get a j))) ∧ (∀ j : Nat, j < 5 → wr.cell? ⟨w.heap.size + 1 + 1 + 1, j, none⟩ = some (.int .i64 (DsLaw.get b j))) ∧
    wr.cell? ⟨w.heap.size, 5, none⟩ = some (.int .u64 a.gm) ∧ wr.cell? ⟨w.heap.size + 1, 5, none⟩ = some (.int .u64 b.gm) ∧ Below w.heap.size w wr
theorem OInv.drewN {a b : DS} {w wr : World} (h : OInv a b w wr) (n : Nat) : OInv a b w (wr.drewN n) := ⟨h.1, h.2.1, h.2.2.1, h.2.2.2.1, below_drewN h.2.2.2.2 n⟩
theorem OInv.new (a b : DS) (w : World) (t1 t2 t3 t4 : TypeId) : OInv a b w ((((w.alloc (.cells #[.int .i64 a.p1, .int .i64 a.cls, .int .i64 a.acc, .int .i64 a.vr, .int .i64 a.p2, .int .u64 a.gm, .int .i64 a.steps, .int .u64 a.snd, .int .i64 a.sp, .int .u64 a.rcv, .int .i64 a.rp] t1)).alloc (.cells #[.int .i64 b.p1, .int .i64 b.cls, .int .i64 b.acc, .int .i64 b.vr, .int .i64 b.p2, .int .u64 b.gm, .int .i64 b.steps, .int .u64 b.snd, .int .i64 b.sp, .int .u64 b.rcv, .int .i64 b.rp] t2)).alloc (.cells #[.int .i64 a.p1, .int .i64 a.cls, .int .i64 a.acc, .int .i64 a.vr, .int .i64 a.p2] t3)).alloc (.cells #[.int .i64 b.p1, .int .i64 b.cls, .int .i64 b.acc, .int .i64 b.vr, .int .i64 b.p2] t4)) := by
  have hA := fun (o : Obj) => rangeAt_alloc (rangeAt_new ((w.alloc (.cells #[.int .i64 a.p1, .int .i64 a.cls, .int .i64 a.acc, .int .i64 a.vr, .int .i64 a.p2, .int .u64 a.gm, .int .i64 a.steps, .int .u64 a.snd, .int .i64 a.sp, .int .u64 a.rcv, .int .i64 a.rp] t1)).alloc (.cells #[.int .i64 b.p1, .int .i64 b.cls, .int .i64 b.acc, .int .i64 b.vr, .int .i64 b.p2, .int .u64 b.gm, .int .i64 b.steps, .int .u64 b.snd, .int .i64 b.sp, .int .u64 b.rcv, .int .i64 b.rp] t2)) t3 [.int .i64 a.p1, .int .i64 a.cls, .int .i64 a.acc, .int .i64 a.vr, .int .i64 a.p2] _ rfl) (by simp) o
  have hB := rangeAt_new (((w.alloc (.cells #[.int .i64 a.p1, .int .i64 a.cls, .int .i64 a.acc, .int .i64 a.vr, .int .i64 a.p2, .int .u64 a.gm, .int .i64 a.steps, .int .u64 a.snd, .int .i64 a.sp, .int .u64 a.rcv, .int .i64 a.rp] t1)).alloc (.cells #[.int .i64 b.p1, .int .i64 b.cls, .int .i64 b.acc, .int .i64 b.vr, .int .i64 b.p2, .int .u64 b.gm, .int .i64 b.steps, .int .u64 b.snd, .int .i64 b.sp, .int .u64 b.rcv, .int .i64 b.rp] t2)).alloc (.cells #[.int .i64 a.p1, .int .i64 a.cls, .int .i64 a.acc, .int .i64 a.vr, .int .i64 a.p2] t3)) t4 [.int .i64 b.p1, .int .i64 b.cls, .int .i64 b.acc, .int .i64 b.vr, .int .i64 b.p2] _ rfl
  refine ⟨fun j hj => ?_, fun j hj => ?_, ?_, ?_, ((((Below.refl _ _).alloc (Nat.le_refl _) _).alloc (by simp) _).alloc (by simp; omega) _).alloc (by simp; omega) _⟩
  · have := hA (.cells #[.int .i64 b.p1, .int .i64 b.cls, .int .i64 b.acc, .int .i64 b.vr, .int .i64 b.p2] t4) j (.int .i64 (DsLaw.get a j)) (by match j, hj with | 0, _ => rfl | 1, _ => rfl | 2, _ => rfl | 3, _ => rfl | 4, _ => rfl)
    simpa using this
  · have := hB j (.int .i64 (DsLaw.get b j)) (by match j, hj with | 0, _ => rfl | 1, _ => rfl | 2, _ => rfl | 3, _ => rfl | 4, _ => rfl)
    simpa using this
  · simp [go_sem]
  · simp [go_sem]

set_option maxHeartbeats 1000000 in
theorem r_order_any (a b : DS) (w : World) : Calls Tryd.prog 35 #[(.agg #[.int .i64 a.p1, .int .i64 a.cls, .int .i64 a.acc, .int .i64 a.vr, .int .i64 a.p2, .int .u64 a.gm, .int .i64 a.steps, .int .u64 a.snd, .int .i64 a.sp, .int .u64 a.rcv, .int .i64 a.rp]), (.agg #[.int .i64 b.p1, .int .i64 b.cls, .int .i64 b.acc, .int .i64 b.vr, .int .i64 b.p2, .int .u64 b.gm, .int .i64 b.steps, .int .u64 b.snd, .int .i64 b.sp, .int .u64 b.rcv, .int .i64 b.rp])] w fun e w' => e = .returned (.int .i64 (lexF a b 0 6)) ∧ Below w.heap.size w w' := by
  go_enter Tryd.func35, Tryd.ntmps35
  go_wp2
  go_loopw [7] (fun i wr => ∃ k : Nat, k ≤ 5 ∧ i = .int .i64 k ∧ lexF a b 0 6 = lexF a b k (6 - k) ∧ OInv a b w wr) (fun i _ => 5 - (intOf i).toNat)
  case atStart => exact ⟨0, by omega, rfl, rfl, OInv.new a b w _ _ _ _⟩
  case round =>
    obtain ⟨k, hk5, rfl, hlex, hI⟩ := hrel
    by_cases hlt : k < 5
    · have hx := hI.1 k hlt
      have hy := hI.2.1 k hlt
      have hk : (k : Int) < 5 := by omega
      have hk0 : (0 : Int) ≤ (k : Int) := by omega
      have hstep := DsLaw.lexF_step a b k (6 - (k + 1))
      rw [show 6 - (k + 1) + 1 = 6 - k by omega] at hstep
      have HI := Lib.hid hI
      have hF : DsLaw.F k = k := by match k, hlt with | 0, _ => rfl | 1, _ => rfl | 2, _ => rfl | 3, _ => rfl | 4, _ => rfl
      rw [hF] at hstep
      clear hI hF
      rcases DsLaw.cmpI_cases (DsLaw.get a k) (DsLaw.get b k) with ⟨h, g⟩ | ⟨h, g⟩ | ⟨h, g⟩
      · have HL := Lib.hid (hlex.trans (hstep.2 (by rw [h]; decide)))
        rw [h] at HL
        clear hstep hlex h
        go_wp2_with fail
        go_quiet (fail)
        go_wp2
        go_ret
        exact ⟨ret_int HL.out.symm, below_drewN HI.out.2.2.2.2 _⟩
      · have HL := Lib.hid (hlex.trans (hstep.1 h))
        clear hstep hlex h
        rw [← g] at hy
        have HG := Lib.hid g
        clear g
        go_wp2_with fail
        go_quiet (fail)
        go_wp2_with fail
        go_quiet (fail)
        go_wp2
        go_roundw
        case rel => exact ⟨k + 1, by omega, by go_num, HL.out, HI.out.drewN _⟩
        case measure => simp [intOf]; omega
      · have HL := Lib.hid (hlex.trans (hstep.2 (by rw [h]; decide)))
        rw [h] at HL
        clear hstep hlex h
        go_wp2_with fail
        go_quiet (fail)
        go_wp2_with fail
        go_quiet (fail)
        go_wp2
        go_ret
        exact ⟨ret_int HL.out.symm, below_drewN (below_drewN HI.out.2.2.2.2 _) _⟩
    · have hk : k = 5 := by omega
      subst hk
      have h1 := hI.2.2.1
      have h2 := hI.2.2.2.1
      have HL := Lib.hid hlex
      have HI := Lib.hid hI
      clear hlex hI
      go_wp2_with (go_at_call 37; refine (numbers_any _ _ _).mono ?_; rintro en w' ⟨rfl, rfl⟩)
      go_ret
      exact ⟨ret_int (by rw [HL.out]; exact (DsLaw.lexF_one a b 5).symm), HI.out.2.2.2.2⟩
end Go.Proofs.YtbjficjcgpgcbaaDoor
namespace Go.Proofs.YtbjficjcgpgcbaaDoor
set_option linter.unusedVariables false
open Go.RowKit
open DsLaw (I64 U64 cmpI lexF lt rk)

theorem b2 {w w1 : World} {o1 o2 : Obj} (hb1 : Below ((w.alloc o1).alloc o2).heap.size ((w.alloc o1).alloc o2) w1) : Below w.heap.size w w1 :=
  (((Below.refl _ _).alloc (Nat.le_refl _) _).alloc (by simp) _).trans (hb1.mono (by simp; omega))
set_option maxHeartbeats 1000000 in
theorem r_less_any (a b : DS) (w : World) : Calls Tryd.prog 29 #[(.agg #[.int .i64 a.p1, .int .i64 a.cls, .int .i64 a.acc, .int .i64 a.vr, .int .i64 a.p2, .int .u64 a.gm, .int .i64 a.steps, .int .u64 a.snd, .int .i64 a.sp, .int .u64 a.rcv, .int .i64 a.rp]), (.agg #[.int .i64 b.p1, .int .i64 b.cls, .int .i64 b.acc, .int .i64 b.vr, .int .i64 b.p2, .int .u64 b.gm, .int .i64 b.steps, .int .u64 b.snd, .int .i64 b.sp, .int .u64 b.rcv, .int .i64 b.rp])] w fun e w' => e = .returned (.bool (decide (lt a b))) ∧ Below w.heap.size w w' := by
  have HE := Lib.hid (DsLaw.lexF_less a b)
  go_enter Tryd.func29, Tryd.ntmps29
  go_wp2_with fail
  refine (r_order_any a b _).mono ?_
  rintro e w1 ⟨rfl, hb1⟩
  have HB := Lib.hid (b2 hb1)
  obtain ⟨hc, hf⟩ := bcell hb1
  clear hb1
  go_wp2_with (first | (go_at_call 37; refine (numbers_any _ _ _).mono ?_; rintro en w' ⟨rfl, rfl⟩) | (go_at_call 36; refine (ints_any _ _ _).mono ?_; rintro en w' ⟨rfl, rfl⟩))
  all_goals (go_ret; go_light; refine ⟨ret_bool (decide_eq_decide.2 ?_), HB.out⟩; have he := HE.out; clear HE HB hc hf; unfold lt; rw [he]; clear he; grind)

end Go.Proofs.YtbjficjcgpgcbaaDoor
