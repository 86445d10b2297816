/- A walk of package dataset: Less. -/
import Derived.Test.YthbfjnmdjehljaaDoorDsWalks
import Derived.Laws.EntriesVeiled
namespace Go.Proofs.YthbfjnmdjehljaaDoor
set_option linter.unusedVariables false
open Go.RowKit
open DsLaw (I64 U64 cmpI lexF lt rk)

theorem ocmp11 (a b : DS) (ha : DsLaw.Ok a) (hb : DsLaw.Ok b) (w : World) (hF : Fields w) :
    Calls Tryd.prog 25 #[.agg #[.func (.func 24) #[] #[]], (.agg #[.int .i64 a.p1, .int .i64 a.cls, .int .i64 a.acc, .int .i64 a.vr, .int .i64 a.p2, .int .u64 a.gm, .int .i64 a.steps, .int .u64 a.snd, .int .i64 a.sp, .int .u64 a.rcv, .int .i64 a.rp]), (.agg #[.int .i64 b.p1, .int .i64 b.cls, .int .i64 b.acc, .int .i64 b.vr, .int .i64 b.p2, .int .u64 b.gm, .int .i64 b.steps, .int .u64 b.snd, .int .i64 b.sp, .int .u64 b.rcv, .int .i64 b.rp]), .int .i64 0, .int .i64 11] w fun e w' => e = .returned (.int .i64 (lexF a b 0 11)) ∧ Below w.heap.size w w' := ocmp_any a b ha hb 0 11 (by omega) w hF
theorem less_any (a b : DS) (ha : DsLaw.Ok a) (hb : DsLaw.Ok b) (w : World) (hF : Fields w) :
    Calls Tryd.prog 16 #[(.agg #[.int .i64 a.p1, .int .i64 a.cls, .int .i64 a.acc, .int .i64 a.vr, .int .i64 a.p2, .int .u64 a.gm, .int .i64 a.steps, .int .u64 a.snd, .int .i64 a.sp, .int .u64 a.rcv, .int .i64 a.rp]), (.agg #[.int .i64 b.p1, .int .i64 b.cls, .int .i64 b.acc, .int .i64 b.vr, .int .i64 b.p2, .int .u64 b.gm, .int .i64 b.steps, .int .u64 b.snd, .int .i64 b.sp, .int .u64 b.rcv, .int .i64 b.rp])] w fun e w' => e = .returned (.bool (decide (lt a b))) ∧ Below w.heap.size w w' := by
  go_enter Tryd.func16, Tryd.ntmps16
  go_wp2_with fail
  refine (ocmp11 a b ha hb _ ((hF.alloc _).alloc _)).mono ?_
  rintro e w1 ⟨rfl, hb1⟩
  go_wp2
  go_ret
  exact ⟨rfl, (((Below.refl _ _).alloc (Nat.le_refl _) _).alloc (by simp) _).trans (hb1.mono (by simp; omega))⟩

end Go.Proofs.YthbfjnmdjehljaaDoor
