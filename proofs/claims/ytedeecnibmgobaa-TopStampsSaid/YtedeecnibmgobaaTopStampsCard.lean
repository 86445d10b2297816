/- For every input the law TopStamps returns true. No condition. -/
import Derived.Test.YtedeecnibmgobaaTopStampsTree
namespace Go.Proofs.Ytedeecnibmgobaa
open Go Go.ChangeShapes Go.WideShapes Go.ChangeAt Go.RowKit SX
set_option linter.unusedVariables false

theorem topStamps_shs : shsOf Try.prog Try.f3.params.toList = some stmSh := by kernel_rfl
set_option maxRecDepth 100000 in
theorem topStamps_lifted (os : Os) (started : os.Started) (H : Type) (enc : TypeId × Value → H) :
    ReturnsInHanded {} Try.checked os 3 .any (Rows.topStampsSpec.pre6 enc Try.prog Try.f3 [] false) (Rows.topStampsSpec.post enc Try.prog Try.f3 false true false false) := by
  refine law_lifted0 (C := Try.checked) laidOut own started (by kernel_rfl) Try.func3 rfl (fun ds hl => ?_) rfl Try.underlying4 (by kernel_rfl)
    (ChangeSpec.witness6 (enc := enc) (C := Try.checked) false ⟨#[], #[.int .i64 0, .int .i64 0], []⟩ 8 (by kernel_rfl) (by kernel_rfl) (by kernel_rfl) (by kernel_rfl)) ?_
  · match ds, hl with
    | [_, _], _ => rfl
  · exact pays_flat topStamps_shs fun ns hns W _ => stm_pays ns hns W

theorem topStamps_holds : Rows.TopStampsSaid :=
  OpenClaim.holds_of_wide 3 Try.f3 rfl rfl rfl rfl rfl rfl rfl ⟨rfl, rfl, rfl, rfl, rfl⟩ rfl rfl rfl rfl rfl (by kernel_rfl) Try.func3 (by kernel_rfl)
    (of_decide_eq_true (by kernel_rfl)) (by unfold Func.isWrapper; rw [if_neg (of_decide_eq_false (by kernel_rfl))]; exact ⟨rfl, rfl⟩)
    (fun os started H enc _ => topStamps_lifted os started H enc)

end Go.Proofs.Ytedeecnibmgobaa
