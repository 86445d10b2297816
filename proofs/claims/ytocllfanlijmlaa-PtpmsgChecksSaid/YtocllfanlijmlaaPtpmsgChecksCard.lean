/- For every input the law PtpmsgChecks of layer 33 returns true. No condition. -/
import Derived.Test.YtocllfanlijmlaaPmChecks
namespace Go.Proofs.Ytocllfanlijmlaa
open Go Go.ChangeShapes Go.WideShapes Go.ChangeAt Go.RowKit SX
set_option linter.unusedVariables false

theorem ptpmsgChecks_shs : shsOf Try.prog Try.f3.params.toList = some chkSh := by kernel_rfl
set_option maxRecDepth 100000 in
theorem ptpmsgChecks_lifted (os : Os) (started : os.Started) (H : Type) (enc : TypeId × Value → H) :
    ReturnsInHanded {} Try.checked os 3 .any (Rows.ptpmsgChecksSpec.pre6 enc Try.prog Try.f3 [] false) (Rows.ptpmsgChecksSpec.post enc Try.prog Try.f3 false true false false) := by
  refine law_lifted0 (C := Try.checked) laidOut own started (by kernel_rfl) Try.func3 rfl (fun ds hl => ?_) rfl Try.underlying4 (by kernel_rfl)
    (ChangeSpec.witness6 (enc := enc) (C := Try.checked) false ⟨#[], #[.agg #[.int .i64 0, .int .i64 0, .int .i64 0, .int .i64 0, .int .u64 0, .int .i64 0, .int .i64 0, .int .i64 0, .int .i64 0, .int .i64 0, .int .u64 0, .int .i64 0, .int .i64 0, .int .i64 0, .int .i64 0, .int .i64 0, .int .i64 0, .int .i64 0, .int .u64 0, .int .i64 0, .int .i64 0], .int .i64 0], []⟩ 8 (by kernel_rfl) (by kernel_rfl) (by kernel_rfl) (by kernel_rfl)) ?_
  · match ds, hl with
    | [_, _], _ => rfl
  · exact pays_flat ptpmsgChecks_shs fun ns hns W _ => chk_pays ns hns W

theorem ptpmsgChecks_holds : Rows.PtpmsgChecksSaid :=
  OpenClaim.holds_of_wide 3 Try.f3 rfl rfl rfl rfl rfl rfl rfl ⟨rfl, rfl, rfl, rfl, rfl⟩ rfl rfl rfl rfl rfl (by kernel_rfl) Try.func3 (by kernel_rfl)
    (of_decide_eq_true (by kernel_rfl)) (by unfold Func.isWrapper; rw [if_neg (of_decide_eq_false (by kernel_rfl))]; exact ⟨rfl, rfl⟩)
    (fun os started H enc _ => ptpmsgChecks_lifted os started H enc)

end Go.Proofs.Ytocllfanlijmlaa
