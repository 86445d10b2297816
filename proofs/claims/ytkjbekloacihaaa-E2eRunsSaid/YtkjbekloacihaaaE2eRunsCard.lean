/- For every input the law E2eRuns of layer 38 returns true. No condition. -/
import Derived.Test.YtkjbekloacihaaaE2eRunsTree
namespace Go.Proofs.Ytkjbekloacihaaa
open Go Go.ChangeShapes Go.WideShapes Go.ChangeAt Go.RowKit SX
set_option linter.unusedVariables false

theorem e2eRuns_shs : phsOf Try.prog Try.f3.params.toList = some runSh := by kernel_rfl
set_option maxRecDepth 100000 in
theorem e2eRuns_lifted (os : Os) (started : os.Started) (H : Type) (enc : TypeId × Value → H) :
    ReturnsInHanded {} Try.checked os 3 .any (Rows.e2eRunsSpec.pre6 enc Try.prog Try.f3 [] false) (Rows.e2eRunsSpec.post enc Try.prog Try.f3 false true false false) := by
  refine law_lifted0 (C := Try.checked) laidOut own started (by kernel_rfl) Try.func3 rfl (fun ds hl => ?_) rfl Try.underlying4 (by kernel_rfl)
    (ChangeSpec.witness6 (enc := enc) (C := Try.checked) false ⟨#[], #[.int .i64 0, .slice none 0 0], []⟩ 8 (by kernel_rfl) (by kernel_rfl) (by kernel_rfl) (by kernel_rfl)) ?_
  · match ds, hl with
    | [_, _], _ => rfl
  · exact pays_phs (X := fun _ => True) e2eRuns_shs fun ns ss hns hl W hss _ => run_pays ns ss hns hl W hss

theorem e2eRuns_holds : Rows.E2eRunsSaid :=
  OpenClaim.holds_of_wide 3 Try.f3 rfl rfl rfl rfl rfl rfl rfl ⟨rfl, rfl, rfl, rfl, rfl⟩ rfl rfl rfl rfl rfl (by kernel_rfl) Try.func3 (by kernel_rfl)
    (of_decide_eq_true (by kernel_rfl)) (by unfold Func.isWrapper; rw [if_neg (of_decide_eq_false (by kernel_rfl))]; exact ⟨rfl, rfl⟩)
    (fun os started H enc _ => e2eRuns_lifted os started H enc)

end Go.Proofs.Ytkjbekloacihaaa
