/- For every input the law PtpmsgEncodes of layer 33 returns true. No condition. -/
import Derived.Test.YtocllfanlijmlaaPtpmsgEncodesTree
namespace Go.Proofs.Ytocllfanlijmlaa
open Go Go.ChangeShapes Go.WideShapes Go.ChangeAt Go.RowKit SX
set_option linter.unusedVariables false

theorem ptpmsgEncodes_shs : shsOf Try.prog Try.f4.params.toList = some encSh := by kernel_rfl
set_option maxRecDepth 100000 in
theorem ptpmsgEncodes_lifted (os : Os) (started : os.Started) (H : Type) (enc : TypeId × Value → H) :
    ReturnsInHanded {} Try.checked os 4 .any (Rows.ptpmsgEncodesSpec.pre6 enc Try.prog Try.f4 [] false) (Rows.ptpmsgEncodesSpec.post enc Try.prog Try.f4 false true false false) := by
  refine law_lifted0 (C := Try.checked) laidOut own started (by kernel_rfl) Try.func4 rfl (fun ds hl => ?_) rfl Try.underlying4 (by kernel_rfl)
    (ChangeSpec.witness6 (enc := enc) (C := Try.checked) false ⟨#[], #[.agg #[.int .i64 0, .int .i64 0, .int .i64 0, .int .i64 0, .int .u64 0, .int .i64 0, .int .i64 0, .int .i64 0, .int .i64 0, .int .i64 0, .int .u64 0, .int .i64 0, .int .i64 0, .int .i64 0, .int .i64 0, .int .i64 0, .int .i64 0, .int .i64 0, .int .u64 0, .int .i64 0, .int .i64 0]], []⟩ 8 (by kernel_rfl) (by kernel_rfl) (by kernel_rfl) (by kernel_rfl)) ?_
  · match ds, hl with
    | [_], _ => rfl
  · exact pays_flat ptpmsgEncodes_shs fun ns hns W _ => enc_pays ns hns W

theorem ptpmsgEncodes_holds : Rows.PtpmsgEncodesSaid :=
  OpenClaim.holds_of_wide 4 Try.f4 rfl rfl rfl rfl rfl rfl rfl ⟨rfl, rfl, rfl, rfl, rfl⟩ rfl rfl rfl rfl rfl (by kernel_rfl) Try.func4 (by kernel_rfl)
    (of_decide_eq_true (by kernel_rfl)) (by unfold Func.isWrapper; rw [if_neg (of_decide_eq_false (by kernel_rfl))]; exact ⟨rfl, rfl⟩)
    (fun os started H enc _ => ptpmsgEncodes_lifted os started H enc)

end Go.Proofs.Ytocllfanlijmlaa
