/- '==' and '!=' on data sets, as the walk meets them. -/
import Derived.Test.YtljcmjcfebpkoaaDoorRows
import Derived.Test.YtljcmjcfebpkoaaDoorDsLaw
import Derived.WalkKit
import Derived.WalkLawsBesides
namespace Go.Proofs.YtljcmjcfebpkoaaDoor

theorem ds_eq_iff (a b : DS) : decide (a = b) = (a.p1 == b.p1 && (a.cls == b.cls && (a.acc == b.acc && (a.vr == b.vr && (a.p2 == b.p2 && (a.gm == b.gm && (a.steps == b.steps && (a.snd == b.snd && (a.sp == b.sp && (a.rcv == b.rcv && a.rp == b.rp)))))))))) := by
  obtain ⟨a0, a1, a2, a3, a4, a5, a6, a7, a8, a9, a10⟩ := a
  obtain ⟨b0, b1, b2, b3, b4, b5, b6, b7, b8, b9, b10⟩ := b
  rw [Bool.eq_iff_iff]
  simp

theorem equalIn_ds (a b : DS) (w : World) : (Op.equalIn 10000 24 (.agg #[.int .i64 a.p1, .int .i64 a.cls, .int .i64 a.acc, .int .i64 a.vr, .int .i64 a.p2, .int .u64 a.gm, .int .i64 a.steps, .int .u64 a.snd, .int .i64 a.sp, .int .u64 a.rcv, .int .i64 a.rp]) (.agg #[.int .i64 b.p1, .int .i64 b.cls, .int .i64 b.acc, .int .i64 b.vr, .int .i64 b.p2, .int .u64 b.gm, .int .i64 b.steps, .int .u64 b.snd, .int .i64 b.sp, .int .u64 b.rcv, .int .i64 b.rp])).run Tryd.prog w = .ok (decide (a = b)) w := by
  rw [ds_eq_iff, run_equalIn_agg w 9999 24 _ _ (by kernel_rfl) (by kernel_rfl)]
  simp only [Program.fieldsOf, Tryd.underlying24]
  simp [go_sem, Tryd.underlying3, Tryd.underlying22]
  repeat' split
  all_goals simp [*]
theorem eql_ds (a b : DS) (w : World) : (binOp .eql 24 (.agg #[.int .i64 a.p1, .int .i64 a.cls, .int .i64 a.acc, .int .i64 a.vr, .int .i64 a.p2, .int .u64 a.gm, .int .i64 a.steps, .int .u64 a.snd, .int .i64 a.sp, .int .u64 a.rcv, .int .i64 a.rp]) (.agg #[.int .i64 b.p1, .int .i64 b.cls, .int .i64 b.acc, .int .i64 b.vr, .int .i64 b.p2, .int .u64 b.gm, .int .i64 b.steps, .int .u64 b.snd, .int .i64 b.sp, .int .u64 b.rcv, .int .i64 b.rp])).run Tryd.prog w = .ok (.bool (decide (a = b))) w := by
  rw [run_eql_struct, equalIn_ds]; rfl
theorem neq_ds (a b : DS) (w : World) : (binOp .neq 24 (.agg #[.int .i64 a.p1, .int .i64 a.cls, .int .i64 a.acc, .int .i64 a.vr, .int .i64 a.p2, .int .u64 a.gm, .int .i64 a.steps, .int .u64 a.snd, .int .i64 a.sp, .int .u64 a.rcv, .int .i64 a.rp]) (.agg #[.int .i64 b.p1, .int .i64 b.cls, .int .i64 b.acc, .int .i64 b.vr, .int .i64 b.p2, .int .u64 b.gm, .int .i64 b.steps, .int .u64 b.snd, .int .i64 b.sp, .int .u64 b.rcv, .int .i64 b.rp])).run Tryd.prog w = .ok (.bool (!decide (a = b))) w := by
  rw [run_neq_struct, equalIn_ds]; rfl
end Go.Proofs.YtljcmjcfebpkoaaDoor
