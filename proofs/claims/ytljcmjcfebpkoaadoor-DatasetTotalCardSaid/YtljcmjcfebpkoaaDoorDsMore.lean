/- Walks of package dataset: Less, Compare, Best, Own, Step. -/
import Derived.Test.YtljcmjcfebpkoaaDoorDsWalks
import Derived.Test.YtljcmjcfebpkoaaDoorDsEq
import Derived.Laws.EntriesVeiled
namespace Go.Proofs.YtljcmjcfebpkoaaDoor
set_option linter.unusedVariables false
open Go.RowKit
open DsLaw (I64 U64 cmpI lexF lt rk)

theorem ocmp11 (a b : DS) (ha : DsLaw.Ok a) (hb : DsLaw.Ok b) (w : World) (hF : Fields w) :
    Calls Tryd.prog 26 #[.agg #[.func (.func 25) #[] #[]], (.agg #[.int .i64 a.p1, .int .i64 a.cls, .int .i64 a.acc, .int .i64 a.vr, .int .i64 a.p2, .int .u64 a.gm, .int .i64 a.steps, .int .u64 a.snd, .int .i64 a.sp, .int .u64 a.rcv, .int .i64 a.rp]), (.agg #[.int .i64 b.p1, .int .i64 b.cls, .int .i64 b.acc, .int .i64 b.vr, .int .i64 b.p2, .int .u64 b.gm, .int .i64 b.steps, .int .u64 b.snd, .int .i64 b.sp, .int .u64 b.rcv, .int .i64 b.rp]), .int .i64 0, .int .i64 11] w fun e w' => e = .returned (.int .i64 (lexF a b 0 11)) ∧ Below w.heap.size w w' := ocmp_any a b ha hb 0 11 (by omega) w hF
theorem ocmp6 (a b : DS) (ha : DsLaw.Ok a) (hb : DsLaw.Ok b) (w : World) (hF : Fields w) :
    Calls Tryd.prog 26 #[.agg #[.func (.func 25) #[] #[]], (.agg #[.int .i64 a.p1, .int .i64 a.cls, .int .i64 a.acc, .int .i64 a.vr, .int .i64 a.p2, .int .u64 a.gm, .int .i64 a.steps, .int .u64 a.snd, .int .i64 a.sp, .int .u64 a.rcv, .int .i64 a.rp]), (.agg #[.int .i64 b.p1, .int .i64 b.cls, .int .i64 b.acc, .int .i64 b.vr, .int .i64 b.p2, .int .u64 b.gm, .int .i64 b.steps, .int .u64 b.snd, .int .i64 b.sp, .int .u64 b.rcv, .int .i64 b.rp]), .int .i64 0, .int .i64 6] w fun e w' => e = .returned (.int .i64 (lexF a b 0 6)) ∧ Below w.heap.size w w' := ocmp_any a b ha hb 0 6 (by omega) w hF
theorem ocmp3 (a b : DS) (ha : DsLaw.Ok a) (hb : DsLaw.Ok b) (w : World) (hF : Fields w) :
    Calls Tryd.prog 26 #[.agg #[.func (.func 25) #[] #[]], (.agg #[.int .i64 a.p1, .int .i64 a.cls, .int .i64 a.acc, .int .i64 a.vr, .int .i64 a.p2, .int .u64 a.gm, .int .i64 a.steps, .int .u64 a.snd, .int .i64 a.sp, .int .u64 a.rcv, .int .i64 a.rp]), (.agg #[.int .i64 b.p1, .int .i64 b.cls, .int .i64 b.acc, .int .i64 b.vr, .int .i64 b.p2, .int .u64 b.gm, .int .i64 b.steps, .int .u64 b.snd, .int .i64 b.sp, .int .u64 b.rcv, .int .i64 b.rp]), .int .i64 11, .int .i64 14] w fun e w' => e = .returned (.int .i64 (lexF a b 11 3)) ∧ Below w.heap.size w w' := ocmp_any a b ha hb 11 3 (by omega) w hF

theorem less_any (a b : DS) (ha : DsLaw.Ok a) (hb : DsLaw.Ok b) (w : World) (hF : Fields w) :
    Calls Tryd.prog 14 #[(.agg #[.int .i64 a.p1, .int .i64 a.cls, .int .i64 a.acc, .int .i64 a.vr, .int .i64 a.p2, .int .u64 a.gm, .int .i64 a.steps, .int .u64 a.snd, .int .i64 a.sp, .int .u64 a.rcv, .int .i64 a.rp]), (.agg #[.int .i64 b.p1, .int .i64 b.cls, .int .i64 b.acc, .int .i64 b.vr, .int .i64 b.p2, .int .u64 b.gm, .int .i64 b.steps, .int .u64 b.snd, .int .i64 b.sp, .int .u64 b.rcv, .int .i64 b.rp])] w fun e w' => e = .returned (.bool (decide (lt a b))) ∧ Below w.heap.size w w' := by
  go_enter Tryd.func14, Tryd.ntmps14
  go_wp2_with fail
  refine (ocmp11 a b ha hb _ ((hF.alloc _).alloc _)).mono ?_
  rintro e w1 ⟨rfl, hb1⟩
  go_wp2
  go_ret
  exact ⟨rfl, (((Below.refl _ _).alloc (Nat.le_refl _) _).alloc (by simp) _).trans (hb1.mono (by simp; omega))⟩

theorem behind_any (d : DS) (more better topo : Int) (w : World) :
    Calls Tryd.prog 27 #[(.agg #[.int .i64 d.p1, .int .i64 d.cls, .int .i64 d.acc, .int .i64 d.vr, .int .i64 d.p2, .int .u64 d.gm, .int .i64 d.steps, .int .u64 d.snd, .int .i64 d.sp, .int .u64 d.rcv, .int .i64 d.rp]), .int .u64 more, .int .i64 better, .int .i64 topo] w fun e w' => e = .returned (.int .i64 (DsLaw.behind d more better topo)) ∧ Below w.heap.size w w' := by
  by_cases h1 : 1 < more
  · have he : DsLaw.behind d more better topo = better := by simp [DsLaw.behind, h1]
    rw [he]; clear he
    go_enter Tryd.func27, Tryd.ntmps27
    go_wp2
    go_ret
    exact ⟨rfl, (Below.refl _ _).alloc (Nat.le_refl _) _⟩
  · by_cases h2 : d.rcv < d.snd
    · have he : DsLaw.behind d more better topo = better := by simp [DsLaw.behind, h2]
      rw [he]; clear he
      go_enter Tryd.func27, Tryd.ntmps27
      go_wp2
      go_ret
      exact ⟨rfl, (Below.refl _ _).alloc (Nat.le_refl _) _⟩
    · by_cases h3 : d.snd < d.rcv
      · have he : DsLaw.behind d more better topo = topo := by unfold DsLaw.behind; rw [if_neg (by omega), if_pos h3]
        rw [he]; clear he
        go_enter Tryd.func27, Tryd.ntmps27
        go_wp2
        go_ret
        exact ⟨rfl, (Below.refl _ _).alloc (Nat.le_refl _) _⟩
      · have he : DsLaw.behind d more better topo = 5 := by unfold DsLaw.behind; rw [if_neg (by omega), if_neg h3]
        rw [he]; clear he
        go_enter Tryd.func27, Tryd.ntmps27
        go_wp2
        go_ret
        exact ⟨rfl, (Below.refl _ _).alloc (Nat.le_refl _) _⟩

attribute [local go_sem ↓] eql_ds neq_ds
theorem b3 {w w1 : World} {o1 o2 o3 : Obj} (hb1 : Below (((w.alloc o1).alloc o2).alloc o3).heap.size (((w.alloc o1).alloc o2).alloc o3) w1) : Below w.heap.size w w1 :=
  ((((Below.refl _ _).alloc (Nat.le_refl _) _).alloc (by simp) _).alloc (by simp; omega) _).trans (hb1.mono (by simp; omega))
theorem compare_same (a : DS) (w : World) :
    Calls Tryd.prog 11 #[(.agg #[.int .i64 a.p1, .int .i64 a.cls, .int .i64 a.acc, .int .i64 a.vr, .int .i64 a.p2, .int .u64 a.gm, .int .i64 a.steps, .int .u64 a.snd, .int .i64 a.sp, .int .u64 a.rcv, .int .i64 a.rp]), (.agg #[.int .i64 a.p1, .int .i64 a.cls, .int .i64 a.acc, .int .i64 a.vr, .int .i64 a.p2, .int .u64 a.gm, .int .i64 a.steps, .int .u64 a.snd, .int .i64 a.sp, .int .u64 a.rcv, .int .i64 a.rp])] w fun e w' => e = .returned (.int .i64 0) ∧ Below w.heap.size w w' := by
  go_enter Tryd.func11, Tryd.ntmps11
  go_wp2
  go_ret
  exact ⟨rfl, (((Below.refl _ _).alloc (Nat.le_refl _) _).alloc (by simp) _).alloc (by simp; omega) _⟩
set_option maxHeartbeats 1000000 in
theorem compare_more (a b : DS) (ha : DsLaw.Ok a) (hb : DsLaw.Ok b) (w : World) (HF : Hid (∀ o1 o2 o3, Fields (((w.alloc o1).alloc o2).alloc o3))) (hab : ¬ a = b) (hgm : a.gm = b.gm) (h1 : b.steps < a.steps) :
    Calls Tryd.prog 11 #[(.agg #[.int .i64 a.p1, .int .i64 a.cls, .int .i64 a.acc, .int .i64 a.vr, .int .i64 a.p2, .int .u64 a.gm, .int .i64 a.steps, .int .u64 a.snd, .int .i64 a.sp, .int .u64 a.rcv, .int .i64 a.rp]), (.agg #[.int .i64 b.p1, .int .i64 b.cls, .int .i64 b.acc, .int .i64 b.vr, .int .i64 b.p2, .int .u64 b.gm, .int .i64 b.steps, .int .u64 b.snd, .int .i64 b.sp, .int .u64 b.rcv, .int .i64 b.rp])] w fun e w' => e = .returned (.int .i64 (DsLaw.behind a (a.steps - b.steps) 3 4)) ∧ Below w.heap.size w w' := by
  have hd := Lib.hid (DsLaw.diff_u64 a.steps b.steps ha.steps hb.steps h1)
  have hg : (a.gm != b.gm) = false := by simpa using hgm
  have HG := Lib.hid hgm
  clear hgm
  go_enter Tryd.func11, Tryd.ntmps11
  go_wp2_with (go_at_call 27; refine (behind_any _ _ _ _ _).mono ?_; rintro e w1 ⟨rfl, hb1⟩)
  go_ret
  exact ⟨ret_int (by rw [hd.out]), b3 hb1⟩
set_option maxHeartbeats 1000000 in
theorem compare_fewer (a b : DS) (ha : DsLaw.Ok a) (hb : DsLaw.Ok b) (w : World) (HF : Hid (∀ o1 o2 o3, Fields (((w.alloc o1).alloc o2).alloc o3))) (hab : ¬ a = b) (hgm : a.gm = b.gm) (h1 : ¬ b.steps < a.steps) (h2 : a.steps < b.steps) :
    Calls Tryd.prog 11 #[(.agg #[.int .i64 a.p1, .int .i64 a.cls, .int .i64 a.acc, .int .i64 a.vr, .int .i64 a.p2, .int .u64 a.gm, .int .i64 a.steps, .int .u64 a.snd, .int .i64 a.sp, .int .u64 a.rcv, .int .i64 a.rp]), (.agg #[.int .i64 b.p1, .int .i64 b.cls, .int .i64 b.acc, .int .i64 b.vr, .int .i64 b.p2, .int .u64 b.gm, .int .i64 b.steps, .int .u64 b.snd, .int .i64 b.sp, .int .u64 b.rcv, .int .i64 b.rp])] w fun e w' => e = .returned (.int .i64 (DsLaw.behind b (b.steps - a.steps) 1 2)) ∧ Below w.heap.size w w' := by
  have hd := Lib.hid (DsLaw.diff_u64 b.steps a.steps hb.steps ha.steps h2)
  have hg : (a.gm != b.gm) = false := by simpa using hgm
  have HG := Lib.hid hgm
  clear hgm
  go_enter Tryd.func11, Tryd.ntmps11
  go_wp2_with (go_at_call 27; refine (behind_any _ _ _ _ _).mono ?_; rintro e w1 ⟨rfl, hb1⟩)
  go_ret
  exact ⟨ret_int (by rw [hd.out]), b3 hb1⟩
set_option maxHeartbeats 1000000 in
theorem compare_path (a b : DS) (ha : DsLaw.Ok a) (hb : DsLaw.Ok b) (w : World) (HF : Hid (∀ o1 o2 o3, Fields (((w.alloc o1).alloc o2).alloc o3))) (hab : ¬ a = b) (hgm : a.gm = b.gm) (h1 : ¬ b.steps < a.steps) (h2 : ¬ a.steps < b.steps) :
    Calls Tryd.prog 11 #[(.agg #[.int .i64 a.p1, .int .i64 a.cls, .int .i64 a.acc, .int .i64 a.vr, .int .i64 a.p2, .int .u64 a.gm, .int .i64 a.steps, .int .u64 a.snd, .int .i64 a.sp, .int .u64 a.rcv, .int .i64 a.rp]), (.agg #[.int .i64 b.p1, .int .i64 b.cls, .int .i64 b.acc, .int .i64 b.vr, .int .i64 b.p2, .int .u64 b.gm, .int .i64 b.steps, .int .u64 b.snd, .int .i64 b.sp, .int .u64 b.rcv, .int .i64 b.rp])] w fun e w' => e = .returned (.int .i64 (if lexF a b 11 3 = -1 then 2 else if lexF a b 11 3 = 1 then 4 else 5)) ∧ Below w.heap.size w w' := by
  have hg : (a.gm != b.gm) = false := by simpa using hgm
  have HG := Lib.hid hgm
  clear hgm
  have hc := Lib.hid (ocmp3 a b ha hb)
  rcases DsLaw.lexF_range a b 3 11 with h | h | h
  all_goals
    rw [h] at hc ⊢
    clear h
    go_enter Tryd.func11, Tryd.ntmps11
    go_wp2_with (go_at_call 26; refine (hc.out _ (HF.out _ _ _)).mono ?_; rintro e w1 ⟨rfl, hb1⟩)
    go_ret
    exact ⟨rfl, b3 hb1⟩
set_option maxHeartbeats 1000000 in
theorem compare_gm (a b : DS) (ha : DsLaw.Ok a) (hb : DsLaw.Ok b) (w : World) (HF : Hid (∀ o1 o2 o3, Fields (((w.alloc o1).alloc o2).alloc o3))) (hab : ¬ a = b) (hgm : ¬ a.gm = b.gm) :
    Calls Tryd.prog 11 #[(.agg #[.int .i64 a.p1, .int .i64 a.cls, .int .i64 a.acc, .int .i64 a.vr, .int .i64 a.p2, .int .u64 a.gm, .int .i64 a.steps, .int .u64 a.snd, .int .i64 a.sp, .int .u64 a.rcv, .int .i64 a.rp]), (.agg #[.int .i64 b.p1, .int .i64 b.cls, .int .i64 b.acc, .int .i64 b.vr, .int .i64 b.p2, .int .u64 b.gm, .int .i64 b.steps, .int .u64 b.snd, .int .i64 b.sp, .int .u64 b.rcv, .int .i64 b.rp])] w fun e w' => e = .returned (.int .i64 (if lexF a b 0 6 < 0 then 1 else 3)) ∧ Below w.heap.size w w' := by
  have hg : (a.gm != b.gm) = true := by simpa using hgm
  have hc := Lib.hid (ocmp6 a b ha hb)
  rcases DsLaw.lexF_range a b 6 0 with h | h | h
  all_goals
    rw [h] at hc ⊢
    clear h
    go_enter Tryd.func11, Tryd.ntmps11
    go_wp2_with (go_at_call 26; refine (hc.out _ (HF.out _ _ _)).mono ?_; rintro e w1 ⟨rfl, hb1⟩; obtain ⟨hc1, hf1⟩ := bcell hb1)
    go_ret
    exact ⟨rfl, b3 hb1⟩
theorem compare_any (a b : DS) (ha : DsLaw.Ok a) (hb : DsLaw.Ok b) (w : World) (hF : Fields w) :
    Calls Tryd.prog 11 #[(.agg #[.int .i64 a.p1, .int .i64 a.cls, .int .i64 a.acc, .int .i64 a.vr, .int .i64 a.p2, .int .u64 a.gm, .int .i64 a.steps, .int .u64 a.snd, .int .i64 a.sp, .int .u64 a.rcv, .int .i64 a.rp]), (.agg #[.int .i64 b.p1, .int .i64 b.cls, .int .i64 b.acc, .int .i64 b.vr, .int .i64 b.p2, .int .u64 b.gm, .int .i64 b.steps, .int .u64 b.snd, .int .i64 b.sp, .int .u64 b.rcv, .int .i64 b.rp])] w fun e w' => e = .returned (.int .i64 (DsLaw.cmp a b)) ∧ Below w.heap.size w w' := by
  have HF : ∀ o1 o2 o3, Fields (((w.alloc o1).alloc o2).alloc o3) := fun o1 o2 o3 => ((hF.alloc _).alloc _).alloc _
  have HF := Lib.hid HF
  by_cases hab : a = b
  · subst hab
    rw [show DsLaw.cmp a a = 0 by simp [DsLaw.cmp]]
    exact compare_same a w
  · by_cases hgm : a.gm = b.gm
    · by_cases h1 : b.steps < a.steps
      · rw [DsLaw.cmp, if_neg hab, if_neg (fun h => h hgm), if_pos h1]
        exact compare_more a b ha hb w HF hab hgm h1
      · by_cases h2 : a.steps < b.steps
        · rw [DsLaw.cmp, if_neg hab, if_neg (fun h => h hgm), if_neg h1, if_pos h2]
          exact compare_fewer a b ha hb w HF hab hgm h1 h2
        · rw [DsLaw.cmp, if_neg hab, if_neg (fun h => h hgm), if_neg h1, if_neg h2]
          exact compare_path a b ha hb w HF hab hgm h1 h2
    · rw [DsLaw.cmp, if_neg hab, if_pos hgm]
      exact compare_gm a b ha hb w HF hab hgm
end Go.Proofs.YtljcmjcfebpkoaaDoor
