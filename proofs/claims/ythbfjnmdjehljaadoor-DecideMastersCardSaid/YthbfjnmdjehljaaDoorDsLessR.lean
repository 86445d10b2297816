/- Walks of the reference of package dataset: Less, Compare, Own, Step. -/
import Derived.Test.YthbfjnmdjehljaaDoorDsRef
import Derived.Test.YthbfjnmdjehljaaDoorDsLawB
namespace Go.Proofs.YthbfjnmdjehljaaDoor
set_option linter.unusedVariables false
open Go.RowKit
open DsLaw (I64 U64 cmpI lexF lt rk)

theorem b2 {w w1 : World} {o1 o2 : Obj} (hb1 : Below ((w.alloc o1).alloc o2).heap.size ((w.alloc o1).alloc o2) w1) : Below w.heap.size w w1 :=
  (((Below.refl _ _).alloc (Nat.le_refl _) _).alloc (by simp) _).trans (hb1.mono (by simp; omega))
set_option maxHeartbeats 1000000 in
theorem r_less_any (a b : DS) (w : World) : Calls Tryd.prog 27 #[(.agg #[.int .i64 a.p1, .int .i64 a.cls, .int .i64 a.acc, .int .i64 a.vr, .int .i64 a.p2, .int .u64 a.gm, .int .i64 a.steps, .int .u64 a.snd, .int .i64 a.sp, .int .u64 a.rcv, .int .i64 a.rp]), (.agg #[.int .i64 b.p1, .int .i64 b.cls, .int .i64 b.acc, .int .i64 b.vr, .int .i64 b.p2, .int .u64 b.gm, .int .i64 b.steps, .int .u64 b.snd, .int .i64 b.sp, .int .u64 b.rcv, .int .i64 b.rp])] w fun e w' => e = .returned (.bool (decide (lt a b))) ∧ Below w.heap.size w w' := by
  have HE := Lib.hid (DsLaw.lexF_less a b)
  go_enter Tryd.func27, Tryd.ntmps27
  go_wp2_with fail
  refine (r_order_any a b _).mono ?_
  rintro e w1 ⟨rfl, hb1⟩
  have HB := Lib.hid (b2 hb1)
  obtain ⟨hc, hf⟩ := bcell hb1
  clear hb1
  go_wp2_with (first | (go_at_call 32; refine (numbers_any _ _ _).mono ?_; rintro en w' ⟨rfl, rfl⟩) | (go_at_call 31; refine (ints_any _ _ _).mono ?_; rintro en w' ⟨rfl, rfl⟩))
  all_goals (go_ret; go_light; refine ⟨ret_bool (decide_eq_decide.2 ?_), HB.out⟩; have he := HE.out; clear HE HB hc hf; unfold lt; rw [he]; clear he; grind)

end Go.Proofs.YthbfjnmdjehljaaDoor
