/- For every input the law PtpmsgDecodes of layer 33 returns true. No condition. -/
import Derived.Test.YtocllfanlijmlaaPtpmsgDecodesTree
namespace Go.Proofs.Ytocllfanlijmlaa
open Go Go.ChangeShapes Go.WideShapes Go.ChangeAt Go.RowKit SX
set_option linter.unusedVariables false

theorem ptpmsgDecodes_shs : phsOf Try.prog Try.f5.params.toList = some decSh := by kernel_rfl
set_option maxRecDepth 100000 in
theorem ptpmsgDecodes_lifted (os : Os) (started : os.Started) (H : Type) (enc : TypeId × Value → H) :
    ReturnsInHanded {} Try.checked os 5 .any (Rows.ptpmsgDecodesSpec.pre6 enc Try.prog Try.f5 [] false) (Rows.ptpmsgDecodesSpec.post enc Try.prog Try.f5 false true false false) := by
  refine law_lifted0 (C := Try.checked) laidOut own started (by kernel_rfl) Try.func5 rfl (fun ds hl => ?_) rfl Try.underlying4 (by kernel_rfl)
    (ChangeSpec.witness6 (enc := enc) (C := Try.checked) false ⟨#[], #[.slice none 0 0], []⟩ 8 (by kernel_rfl) (by kernel_rfl) (by kernel_rfl) (by kernel_rfl)) ?_
  · match ds, hl with
    | [_], _ => rfl
  · exact pays_phs (X := fun _ => True) ptpmsgDecodes_shs fun ns ss hns hl W hss _ => dec_pays ns ss hns hl W hss

theorem ptpmsgDecodes_holds : Rows.PtpmsgDecodesSaid :=
  OpenClaim.holds_of_wide 5 Try.f5 rfl rfl rfl rfl rfl rfl rfl ⟨rfl, rfl, rfl, rfl, rfl⟩ rfl rfl rfl rfl rfl (by kernel_rfl) Try.func5 (by kernel_rfl)
    (of_decide_eq_true (by kernel_rfl)) (by unfold Func.isWrapper; rw [if_neg (of_decide_eq_false (by kernel_rfl))]; exact ⟨rfl, rfl⟩)
    (fun os started H enc _ => ptpmsgDecodes_lifted os started H enc)

end Go.Proofs.Ytocllfanlijmlaa
