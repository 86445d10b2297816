/- For every input the law E2eRefuses of layer 38 returns true. No condition. -/
import Derived.Test.YtkjbekloacihaaaE2eRefusesTree
namespace Go.Proofs.Ytkjbekloacihaaa
open Go Go.ChangeShapes Go.WideShapes Go.ChangeAt Go.RowKit SX
set_option linter.unusedVariables false

theorem e2eRefuses_shs : phsOf Try.prog Try.f7.params.toList = some refSh := by kernel_rfl
set_option maxRecDepth 100000 in
theorem e2eRefuses_lifted (os : Os) (started : os.Started) (H : Type) (enc : TypeId × Value → H) :
    ReturnsInHanded {} Try.checked os 7 .any (Rows.e2eRefusesSpec.pre6 enc Try.prog Try.f7 [] false) (Rows.e2eRefusesSpec.post enc Try.prog Try.f7 false true false false) := by
  refine law_lifted0 (C := Try.checked) laidOut own started (by kernel_rfl) Try.func7 rfl (fun ds hl => ?_) rfl Try.underlying4 (by kernel_rfl)
    (ChangeSpec.witness6 (enc := enc) (C := Try.checked) false ⟨#[], #[.int .i64 0, .slice none 0 0], []⟩ 8 (by kernel_rfl) (by kernel_rfl) (by kernel_rfl) (by kernel_rfl)) ?_
  · match ds, hl with
    | [_, _], _ => rfl
  · exact pays_phs (X := fun _ => True) e2eRefuses_shs fun ns ss hns hl W hss _ => ref_pays ns ss hns hl W hss

theorem e2eRefuses_holds : Rows.E2eRefusesSaid :=
  OpenClaim.holds_of_wide 7 Try.f7 rfl rfl rfl rfl rfl rfl rfl ⟨rfl, rfl, rfl, rfl, rfl⟩ rfl rfl rfl rfl rfl (by kernel_rfl) Try.func7 (by kernel_rfl)
    (of_decide_eq_true (by kernel_rfl)) (by unfold Func.isWrapper; rw [if_neg (of_decide_eq_false (by kernel_rfl))]; exact ⟨rfl, rfl⟩)
    (fun os started H enc _ => e2eRefuses_lifted os started H enc)

end Go.Proofs.Ytkjbekloacihaaa
