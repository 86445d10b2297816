/- For every input the law PtpmsgBack of layer 33 returns true. No condition. -/
import Derived.Test.YtocllfanlijmlaaPtpmsgBackTree
namespace Go.Proofs.Ytocllfanlijmlaa
open Go Go.ChangeShapes Go.WideShapes Go.ChangeAt Go.RowKit SX
set_option linter.unusedVariables false

theorem ptpmsgBack_shs : shsOf Try.prog Try.f8.params.toList = some bckSh := by kernel_rfl
set_option maxRecDepth 100000 in
theorem ptpmsgBack_lifted (os : Os) (started : os.Started) (H : Type) (enc : TypeId × Value → H) :
    ReturnsInHanded {} Try.checked os 8 .any (Rows.ptpmsgBackSpec.pre6 enc Try.prog Try.f8 [] false) (Rows.ptpmsgBackSpec.post enc Try.prog Try.f8 false true false false) := by
  refine law_lifted0 (C := Try.checked) laidOut own started (by kernel_rfl) Try.func8 rfl (fun ds hl => ?_) rfl Try.underlying4 (by kernel_rfl)
    (ChangeSpec.witness6 (enc := enc) (C := Try.checked) false ⟨#[], #[.agg #[.int .i64 0, .int .i64 0, .int .i64 0, .int .i64 0, .int .u64 0, .int .i64 0, .int .i64 0, .int .i64 0, .int .i64 0, .int .i64 0, .int .u64 0, .int .i64 0, .int .i64 0, .int .i64 0, .int .i64 0, .int .i64 0, .int .i64 0, .int .i64 0, .int .u64 0, .int .i64 0, .int .i64 0], .int .u8 0], []⟩ 8 (by kernel_rfl) (by kernel_rfl) (by kernel_rfl) (by kernel_rfl)) ?_
  · match ds, hl with
    | [_, _], _ => rfl
  · exact pays_flat ptpmsgBack_shs fun ns hns W _ => bck_pays ns hns W

theorem ptpmsgBack_holds : Rows.PtpmsgBackSaid :=
  OpenClaim.holds_of_wide 8 Try.f8 rfl rfl rfl rfl rfl rfl rfl ⟨rfl, rfl, rfl, rfl, rfl⟩ rfl rfl rfl rfl rfl (by kernel_rfl) Try.func8 (by kernel_rfl)
    (of_decide_eq_true (by kernel_rfl)) (by unfold Func.isWrapper; rw [if_neg (of_decide_eq_false (by kernel_rfl))]; exact ⟨rfl, rfl⟩)
    (fun os started H enc _ => ptpmsgBack_lifted os started H enc)

end Go.Proofs.Ytocllfanlijmlaa
