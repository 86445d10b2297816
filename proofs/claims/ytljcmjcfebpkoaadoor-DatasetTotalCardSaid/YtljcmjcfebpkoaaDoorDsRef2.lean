/- Walks of the reference of package dataset: Less, Compare, Own, Step. -/
import Derived.Test.YtljcmjcfebpkoaaDoorDsRef
import Derived.Test.YtljcmjcfebpkoaaDoorDsLawB
namespace Go.Proofs.YtljcmjcfebpkoaaDoor
set_option linter.unusedVariables false
open Go.RowKit
open DsLaw (I64 U64 cmpI lexF lt rk)

theorem b2 {w w1 : World} {o1 o2 : Obj} (hb1 : Below ((w.alloc o1).alloc o2).heap.size ((w.alloc o1).alloc o2) w1) : Below w.heap.size w w1 :=
  (((Below.refl _ _).alloc (Nat.le_refl _) _).alloc (by simp) _).trans (hb1.mono (by simp; omega))
set_option maxHeartbeats 1000000 in
theorem r_less_any (a b : DS) (w : World) : Calls Tryd.prog 15 #[(.agg #[.int .i64 a.p1, .int .i64 a.cls, .int .i64 a.acc, .int .i64 a.vr, .int .i64 a.p2, .int .u64 a.gm, .int .i64 a.steps, .int .u64 a.snd, .int .i64 a.sp, .int .u64 a.rcv, .int .i64 a.rp]), (.agg #[.int .i64 b.p1, .int .i64 b.cls, .int .i64 b.acc, .int .i64 b.vr, .int .i64 b.p2, .int .u64 b.gm, .int .i64 b.steps, .int .u64 b.snd, .int .i64 b.sp, .int .u64 b.rcv, .int .i64 b.rp])] w fun e w' => e = .returned (.bool (decide (lt a b))) ∧ Below w.heap.size w w' := by
  have HE := Lib.hid (DsLaw.lexF_less a b)
  go_enter Tryd.func15, Tryd.ntmps15
  go_wp2_with fail
  refine (r_order_any a b _).mono ?_
  rintro e w1 ⟨rfl, hb1⟩
  have HB := Lib.hid (b2 hb1)
  obtain ⟨hc, hf⟩ := bcell hb1
  clear hb1
  go_wp2_with (first | (go_at_call 30; refine (numbers_any _ _ _).mono ?_; rintro en w' ⟨rfl, rfl⟩) | (go_at_call 31; refine (ints_any _ _ _).mono ?_; rintro en w' ⟨rfl, rfl⟩))
  all_goals (go_ret; go_light; refine ⟨ret_bool (decide_eq_decide.2 ?_), HB.out⟩; have he := HE.out; clear HE HB hc hf; unfold lt; rw [he]; clear he; grind)

theorem longer_any (d : DS) (more better topo : Int) (w : World) :
    Calls Tryd.prog 29 #[(.agg #[.int .i64 d.p1, .int .i64 d.cls, .int .i64 d.acc, .int .i64 d.vr, .int .i64 d.p2, .int .u64 d.gm, .int .i64 d.steps, .int .u64 d.snd, .int .i64 d.sp, .int .u64 d.rcv, .int .i64 d.rp]), .int .u64 more, .int .i64 better, .int .i64 topo] w fun e w' => e = .returned (.int .i64 (DsLaw.behind d more better topo)) ∧ Below w.heap.size w w' := by
  by_cases h1 : 1 < more
  · have he : DsLaw.behind d more better topo = better := by simp [DsLaw.behind, h1]
    rw [he]; clear he
    go_enter Tryd.func29, Tryd.ntmps29
    go_wp2
    go_ret
    exact ⟨rfl, (Below.refl _ _).alloc (Nat.le_refl _) _⟩
  · by_cases h2 : d.rcv < d.snd
    · have he : DsLaw.behind d more better topo = better := by simp [DsLaw.behind, h2]
      rw [he]; clear he
      go_enter Tryd.func29, Tryd.ntmps29
      go_wp2
      go_ret
      exact ⟨rfl, (Below.refl _ _).alloc (Nat.le_refl _) _⟩
    · by_cases h3 : d.snd < d.rcv
      · have he : DsLaw.behind d more better topo = topo := by unfold DsLaw.behind; rw [if_neg (by omega), if_pos h3]
        rw [he]; clear he
        go_enter Tryd.func29, Tryd.ntmps29
        go_wp2
        go_ret
        exact ⟨rfl, (Below.refl _ _).alloc (Nat.le_refl _) _⟩
      · have he : DsLaw.behind d more better topo = 5 := by unfold DsLaw.behind; rw [if_neg (by omega), if_neg h3]
        rw [he]; clear he
        go_enter Tryd.func29, Tryd.ntmps29
        go_wp2
        go_ret
        exact ⟨rfl, (Below.refl _ _).alloc (Nat.le_refl _) _⟩

attribute [local go_sem ↓] eql_ds neq_ds
theorem r_compare_same (a : DS) (w : World) :
    Calls Tryd.prog 12 #[(.agg #[.int .i64 a.p1, .int .i64 a.cls, .int .i64 a.acc, .int .i64 a.vr, .int .i64 a.p2, .int .u64 a.gm, .int .i64 a.steps, .int .u64 a.snd, .int .i64 a.sp, .int .u64 a.rcv, .int .i64 a.rp]), (.agg #[.int .i64 a.p1, .int .i64 a.cls, .int .i64 a.acc, .int .i64 a.vr, .int .i64 a.p2, .int .u64 a.gm, .int .i64 a.steps, .int .u64 a.snd, .int .i64 a.sp, .int .u64 a.rcv, .int .i64 a.rp])] w fun e w' => e = .returned (.int .i64 0) ∧ Below w.heap.size w w' := by
  go_enter Tryd.func12, Tryd.ntmps12
  go_wp2
  go_ret
  exact ⟨rfl, ((Below.refl _ _).alloc (Nat.le_refl _) _).alloc (by simp) _⟩
set_option maxHeartbeats 1000000 in
theorem r_compare_more (a b : DS) (ha : DsLaw.Ok a) (hb : DsLaw.Ok b) (w : World) (hab : ¬ a = b) (hgm : a.gm = b.gm) (h1 : b.steps < a.steps) :
    Calls Tryd.prog 12 #[(.agg #[.int .i64 a.p1, .int .i64 a.cls, .int .i64 a.acc, .int .i64 a.vr, .int .i64 a.p2, .int .u64 a.gm, .int .i64 a.steps, .int .u64 a.snd, .int .i64 a.sp, .int .u64 a.rcv, .int .i64 a.rp]), (.agg #[.int .i64 b.p1, .int .i64 b.cls, .int .i64 b.acc, .int .i64 b.vr, .int .i64 b.p2, .int .u64 b.gm, .int .i64 b.steps, .int .u64 b.snd, .int .i64 b.sp, .int .u64 b.rcv, .int .i64 b.rp])] w fun e w' => e = .returned (.int .i64 (DsLaw.behind a (a.steps - b.steps) 3 4)) ∧ Below w.heap.size w w' := by
  have hd := Lib.hid (DsLaw.diff_u64 a.steps b.steps ha.steps hb.steps h1)
  have hg : (a.gm != b.gm) = false := by simpa using hgm
  have HG := Lib.hid hgm
  clear hgm
  go_enter Tryd.func12, Tryd.ntmps12
  go_wp2_with (go_at_call 29; refine (longer_any _ _ _ _ _).mono ?_; rintro e w1 ⟨rfl, hb1⟩)
  go_ret
  exact ⟨ret_int (by rw [hd.out]), b2 hb1⟩
set_option maxHeartbeats 1000000 in
theorem r_compare_fewer (a b : DS) (ha : DsLaw.Ok a) (hb : DsLaw.Ok b) (w : World) (hab : ¬ a = b) (hgm : a.gm = b.gm) (h1 : ¬ b.steps < a.steps) (h2 : a.steps < b.steps) :
    Calls Tryd.prog 12 #[(.agg #[.int .i64 a.p1, .int .i64 a.cls, .int .i64 a.acc, .int .i64 a.vr, .int .i64 a.p2, .int .u64 a.gm, .int .i64 a.steps, .int .u64 a.snd, .int .i64 a.sp, .int .u64 a.rcv, .int .i64 a.rp]), (.agg #[.int .i64 b.p1, .int .i64 b.cls, .int .i64 b.acc, .int .i64 b.vr, .int .i64 b.p2, .int .u64 b.gm, .int .i64 b.steps, .int .u64 b.snd, .int .i64 b.sp, .int .u64 b.rcv, .int .i64 b.rp])] w fun e w' => e = .returned (.int .i64 (DsLaw.behind b (b.steps - a.steps) 1 2)) ∧ Below w.heap.size w w' := by
  have hd := Lib.hid (DsLaw.diff_u64 b.steps a.steps hb.steps ha.steps h2)
  have hg : (a.gm != b.gm) = false := by simpa using hgm
  have HG := Lib.hid hgm
  clear hgm
  go_enter Tryd.func12, Tryd.ntmps12
  go_wp2_with (go_at_call 29; refine (longer_any _ _ _ _ _).mono ?_; rintro e w1 ⟨rfl, hb1⟩)
  go_ret
  exact ⟨ret_int (by rw [hd.out]), b2 hb1⟩
set_option maxHeartbeats 1000000 in
theorem r_compare_path (a b : DS) (ha : DsLaw.Ok a) (hb : DsLaw.Ok b) (w : World) (hab : ¬ a = b) (hgm : a.gm = b.gm) (h1 : ¬ b.steps < a.steps) (h2 : ¬ a.steps < b.steps) :
    Calls Tryd.prog 12 #[(.agg #[.int .i64 a.p1, .int .i64 a.cls, .int .i64 a.acc, .int .i64 a.vr, .int .i64 a.p2, .int .u64 a.gm, .int .i64 a.steps, .int .u64 a.snd, .int .i64 a.sp, .int .u64 a.rcv, .int .i64 a.rp]), (.agg #[.int .i64 b.p1, .int .i64 b.cls, .int .i64 b.acc, .int .i64 b.vr, .int .i64 b.p2, .int .u64 b.gm, .int .i64 b.steps, .int .u64 b.snd, .int .i64 b.sp, .int .u64 b.rcv, .int .i64 b.rp])] w fun e w' => e = .returned (.int .i64 (if lexF a b 11 3 = -1 then 2 else if lexF a b 11 3 = 1 then 4 else 5)) ∧ Below w.heap.size w w' := by
  have hg : (a.gm != b.gm) = false := by simpa using hgm
  have HG := Lib.hid hgm
  have HE := Lib.hid (DsLaw.lexF_path a b)
  clear hgm
  go_enter Tryd.func12, Tryd.ntmps12
  go_wp2_with (first | (go_at_call 30; refine (numbers_any _ _ _).mono ?_; rintro en w' ⟨rfl, rfl⟩) | (go_at_call 31; refine (ints_any _ _ _).mono ?_; rintro en w' ⟨rfl, rfl⟩))
  all_goals (go_ret; go_light; refine ⟨ret_int ?_, ((Below.refl _ _).alloc (Nat.le_refl _) _).alloc (by simp) _⟩; have he := HE.out; clear HE HG; have hs := DsLaw.cmpI_cases a.snd b.snd; have hr := DsLaw.cmpI_cases a.rp b.rp; have hp := DsLaw.cmpI_cases a.sp b.sp; grind)
set_option maxHeartbeats 1000000 in
theorem r_compare_gm (a b : DS) (ha : DsLaw.Ok a) (hb : DsLaw.Ok b) (w : World) (hab : ¬ a = b) (hgm : ¬ a.gm = b.gm) :
    Calls Tryd.prog 12 #[(.agg #[.int .i64 a.p1, .int .i64 a.cls, .int .i64 a.acc, .int .i64 a.vr, .int .i64 a.p2, .int .u64 a.gm, .int .i64 a.steps, .int .u64 a.snd, .int .i64 a.sp, .int .u64 a.rcv, .int .i64 a.rp]), (.agg #[.int .i64 b.p1, .int .i64 b.cls, .int .i64 b.acc, .int .i64 b.vr, .int .i64 b.p2, .int .u64 b.gm, .int .i64 b.steps, .int .u64 b.snd, .int .i64 b.sp, .int .u64 b.rcv, .int .i64 b.rp])] w fun e w' => e = .returned (.int .i64 (if lexF a b 0 6 < 0 then 1 else 3)) ∧ Below w.heap.size w w' := by
  have hg : (a.gm != b.gm) = true := by simpa using hgm
  have hc := Lib.hid (r_order_any a b)
  rcases DsLaw.lexF_range a b 6 0 with h | h | h
  all_goals
    rw [h] at hc ⊢
    clear h
    go_enter Tryd.func12, Tryd.ntmps12
    go_wp2_with (go_at_call 28; refine (hc.out _).mono ?_; rintro e w1 ⟨rfl, hb1⟩)
    go_ret
    exact ⟨rfl, b2 hb1⟩
theorem r_compare_any (a b : DS) (ha : DsLaw.Ok a) (hb : DsLaw.Ok b) (w : World) :
    Calls Tryd.prog 12 #[(.agg #[.int .i64 a.p1, .int .i64 a.cls, .int .i64 a.acc, .int .i64 a.vr, .int .i64 a.p2, .int .u64 a.gm, .int .i64 a.steps, .int .u64 a.snd, .int .i64 a.sp, .int .u64 a.rcv, .int .i64 a.rp]), (.agg #[.int .i64 b.p1, .int .i64 b.cls, .int .i64 b.acc, .int .i64 b.vr, .int .i64 b.p2, .int .u64 b.gm, .int .i64 b.steps, .int .u64 b.snd, .int .i64 b.sp, .int .u64 b.rcv, .int .i64 b.rp])] w fun e w' => e = .returned (.int .i64 (DsLaw.cmp a b)) ∧ Below w.heap.size w w' := by
  by_cases hab : a = b
  · subst hab
    rw [show DsLaw.cmp a a = 0 by simp [DsLaw.cmp]]
    exact r_compare_same a w
  · by_cases hgm : a.gm = b.gm
    · by_cases h1 : b.steps < a.steps
      · rw [DsLaw.cmp, if_neg hab, if_neg (fun h => h hgm), if_pos h1]
        exact r_compare_more a b ha hb w hab hgm h1
      · by_cases h2 : a.steps < b.steps
        · rw [DsLaw.cmp, if_neg hab, if_neg (fun h => h hgm), if_neg h1, if_pos h2]
          exact r_compare_fewer a b ha hb w hab hgm h1 h2
        · rw [DsLaw.cmp, if_neg hab, if_neg (fun h => h hgm), if_neg h1, if_neg h2]
          exact r_compare_path a b ha hb w hab hgm h1 h2
    · rw [DsLaw.cmp, if_neg hab, if_pos hgm]
      exact r_compare_gm a b ha hb w hab hgm
theorem r_own_any (p1 cls acc vr p2 id : Int) (w : World) : Calls Tryd.prog 22 #[.agg #[.int .i64 p1, .int .i64 cls, .int .i64 acc, .int .i64 vr, .int .i64 p2], .int .u64 id] w fun e w' =>
    e = .returned (.agg #[.int .i64 p1, .int .i64 cls, .int .i64 acc, .int .i64 vr, .int .i64 p2, .int .u64 id, .int .i64 0, .int .u64 id, .int .i64 0, .int .u64 id, .int .i64 0]) ∧ Below w.heap.size w w' := by
  go_enter Tryd.func22, Tryd.ntmps22
  go_wp2
  exact bodyPost_ret (v := .agg #[.int .i64 p1, .int .i64 cls, .int .i64 acc, .int .i64 vr, .int .i64 p2, .int .u64 id, .int .i64 0, .int .u64 id, .int .i64 0, .int .u64 id, .int .i64 0]) (by simp [results, Tryd.results22, go_sem]) rfl ⟨rfl, ((Below.refl _ _).alloc (Nat.le_refl _) _).alloc (by simp) _⟩
theorem r_step_any (d : DS) (snd sp rcv rp : Int) (w : World) (h : d.steps < 32) (hlo : -9223372036854775808 ≤ d.steps) : Calls Tryd.prog 20 #[(.agg #[.int .i64 d.p1, .int .i64 d.cls, .int .i64 d.acc, .int .i64 d.vr, .int .i64 d.p2, .int .u64 d.gm, .int .i64 d.steps, .int .u64 d.snd, .int .i64 d.sp, .int .u64 d.rcv, .int .i64 d.rp]), .int .u64 snd, .int .i64 sp, .int .u64 rcv, .int .i64 rp] w fun e w' =>
    e = .returned (.tuple #[.agg #[.int .i64 d.p1, .int .i64 d.cls, .int .i64 d.acc, .int .i64 d.vr, .int .i64 d.p2, .int .u64 d.gm, .int .i64 (d.steps + 1), .int .u64 snd, .int .i64 sp, .int .u64 rcv, .int .i64 rp], .int .i64 0]) ∧ Below w.heap.size w w' := by
  have h' : decide (32 ≤ d.steps) = false := by simp; omega
  go_enter Tryd.func20, Tryd.ntmps20
  go_wp2
  exact bodyPost_ret (v := .tuple #[.agg #[.int .i64 d.p1, .int .i64 d.cls, .int .i64 d.acc, .int .i64 d.vr, .int .i64 d.p2, .int .u64 d.gm, .int .i64 (d.steps + 1), .int .u64 snd, .int .i64 sp, .int .u64 rcv, .int .i64 rp], .int .i64 0])
    (by simp [results, Tryd.results20, go_sem]) rfl ⟨rfl, ((Below.refl _ _).alloc (Nat.le_refl _) _).alloc (by simp) _⟩
theorem r_step_no (d : DS) (snd sp rcv rp : Int) (w : World) (h : 32 ≤ d.steps) : Calls Tryd.prog 20 #[(.agg #[.int .i64 d.p1, .int .i64 d.cls, .int .i64 d.acc, .int .i64 d.vr, .int .i64 d.p2, .int .u64 d.gm, .int .i64 d.steps, .int .u64 d.snd, .int .i64 d.sp, .int .u64 d.rcv, .int .i64 d.rp]), .int .u64 snd, .int .i64 sp, .int .u64 rcv, .int .i64 rp] w fun e w' =>
    e = .returned (.tuple #[.agg #[.int .i64 0, .int .i64 0, .int .i64 0, .int .i64 0, .int .i64 0, .int .u64 0, .int .i64 0, .int .u64 0, .int .i64 0, .int .u64 0, .int .i64 0], .int .i64 3]) ∧ Below w.heap.size w w' := by
  go_enter Tryd.func20, Tryd.ntmps20
  go_wp2
  exact bodyPost_ret (v := .tuple #[.agg #[.int .i64 0, .int .i64 0, .int .i64 0, .int .i64 0, .int .i64 0, .int .u64 0, .int .i64 0, .int .u64 0, .int .i64 0, .int .u64 0, .int .i64 0], .int .i64 3])
    (by simp [results, Tryd.results20, go_sem]) rfl ⟨rfl, ((Below.refl _ _).alloc (Nat.le_refl _) _).alloc (by simp) _⟩
end Go.Proofs.YtljcmjcfebpkoaaDoor
