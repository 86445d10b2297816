/- For every input the law PtpmsgDiffers of layer 33 returns true. No condition. -/
import Derived.Test.YtocllfanlijmlaaPtpmsgDiffersTree
namespace Go.Proofs.Ytocllfanlijmlaa
open Go Go.ChangeShapes Go.WideShapes Go.ChangeAt Go.RowKit SX
set_option linter.unusedVariables false

theorem ptpmsgDiffers_shs : shsOf Try.prog Try.f7.params.toList = some difSh := by kernel_rfl
set_option maxRecDepth 100000 in
theorem ptpmsgDiffers_lifted (os : Os) (started : os.Started) (H : Type) (enc : TypeId × Value → H) :
    ReturnsInHanded {} Try.checked os 7 .any (Rows.ptpmsgDiffersSpec.pre6 enc Try.prog Try.f7 [] false) (Rows.ptpmsgDiffersSpec.post enc Try.prog Try.f7 false true false false) := by
  refine law_lifted0 (C := Try.checked) laidOut own started (by kernel_rfl) Try.func7 rfl (fun ds hl => ?_) rfl Try.underlying4 (by kernel_rfl)
    (ChangeSpec.witness6 (enc := enc) (C := Try.checked) false ⟨#[], #[.agg #[.int .i64 0, .int .i64 0, .int .i64 0, .int .i64 0, .int .u64 0, .int .i64 0, .int .i64 0, .int .i64 0, .int .i64 0, .int .i64 0, .int .u64 0, .int .i64 0, .int .i64 0, .int .i64 0, .int .i64 0, .int .i64 0, .int .i64 0, .int .i64 0, .int .u64 0, .int .i64 0, .int .i64 0], .agg #[.int .i64 0, .int .i64 0, .int .i64 0, .int .i64 0, .int .u64 0, .int .i64 0, .int .i64 0, .int .i64 0, .int .i64 0, .int .i64 0, .int .u64 0, .int .i64 0, .int .i64 0, .int .i64 0, .int .i64 0, .int .i64 0, .int .i64 0, .int .i64 0, .int .u64 0, .int .i64 0, .int .i64 0]], []⟩ 8 (by kernel_rfl) (by kernel_rfl) (by kernel_rfl) (by kernel_rfl)) ?_
  · match ds, hl with
    | [_, _], _ => rfl
  · exact pays_flat ptpmsgDiffers_shs fun ns hns W _ => dif_pays ns hns W

theorem ptpmsgDiffers_holds : Rows.PtpmsgDiffersSaid :=
  OpenClaim.holds_of_wide 7 Try.f7 rfl rfl rfl rfl rfl rfl rfl ⟨rfl, rfl, rfl, rfl, rfl⟩ rfl rfl rfl rfl rfl (by kernel_rfl) Try.func7 (by kernel_rfl)
    (of_decide_eq_true (by kernel_rfl)) (by unfold Func.isWrapper; rw [if_neg (of_decide_eq_false (by kernel_rfl))]; exact ⟨rfl, rfl⟩)
    (fun os started H enc _ => ptpmsgDiffers_lifted os started H enc)

end Go.Proofs.Ytocllfanlijmlaa
