/- The walk of layer 34's law DatasetTotal, whole. -/
import Derived.Test.YtljcmjcfebpkoaaDoorDsLawsD
namespace Go.Proofs.YtljcmjcfebpkoaaDoor
open Go.RowKit
open DsLaw (lt)
theorem total_walk (a b c : DS) (ha : DsLaw.Ok a) (hb : DsLaw.Ok b) (hc : DsLaw.Ok c) (w : World) (hF : Fields w) :
    Calls Tryd.prog 7 #[(.agg #[.int .i64 a.p1, .int .i64 a.cls, .int .i64 a.acc, .int .i64 a.vr, .int .i64 a.p2, .int .u64 a.gm, .int .i64 a.steps, .int .u64 a.snd, .int .i64 a.sp, .int .u64 a.rcv, .int .i64 a.rp]), (.agg #[.int .i64 b.p1, .int .i64 b.cls, .int .i64 b.acc, .int .i64 b.vr, .int .i64 b.p2, .int .u64 b.gm, .int .i64 b.steps, .int .u64 b.snd, .int .i64 b.sp, .int .u64 b.rcv, .int .i64 b.rp]), (.agg #[.int .i64 c.p1, .int .i64 c.cls, .int .i64 c.acc, .int .i64 c.vr, .int .i64 c.p2, .int .u64 c.gm, .int .i64 c.steps, .int .u64 c.snd, .int .i64 c.sp, .int .u64 c.rcv, .int .i64 c.rp])] w fun e w' => e = .returned (.bool true) ∧ Below w.heap.size w w' := by
  refine total_way a b c ha hb hc w hF _ _ _ rfl rfl rfl ?_
  by_cases e : a = b
  · refine Or.inr (Or.inr ⟨?_, ?_, by simpa using e⟩)
    · subst e; simpa using DsLaw.lt_irrefl a
    · subst e; simpa using DsLaw.lt_irrefl a
  · rcases DsLaw.lt_total e with h | h
    · refine Or.inl ⟨by simpa using h, by simpa using DsLaw.lt_asymm h, by simpa using e, ?_⟩
      by_cases g : lt b c
      · exact Or.inr ⟨by simpa using g, by simpa using DsLaw.lt_trans h g⟩
      · exact Or.inl (by simpa using g)
    · exact Or.inr (Or.inl ⟨by simpa using DsLaw.lt_asymm h, by simpa using h, by simpa using e⟩)
end Go.Proofs.YtljcmjcfebpkoaaDoor
