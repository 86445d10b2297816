/- For every input the law DatasetFarther of layer 34 returns true; the variables that it reads are tied to the program's text. No condition. -/
import Derived.Test.YtljcmjcfebpkoaaDoorDatasetFartherTree
namespace Go.Proofs.YtljcmjcfebpkoaaDoor
open Go Go.ChangeShapes Go.WideShapes Go.ChangeAt Go.RowKit SX
set_option linter.unusedVariables false

theorem datasetFarther_shs : phsOf Tryd.prog Tryd.f9.params.toList = some farSh := by kernel_rfl
set_option maxRecDepth 100000 in
theorem datasetFarther_lifted (os : Os) (started : os.Started) (H : Type) (enc : TypeId × Value → H) :
    ReturnsInHanded {} Tryd.checked os 9 .any (fun w args => (Rows.datasetFartherSpec.pre enc Tryd.prog Tryd.f9 [] false w args ∧ laidMetH Tryd.prog laidL w) ∧ sizedMet enc Tryd.prog Tryd.f9 (OpenSpec.ofChange Rows.datasetFartherSpec) false w args)
      (Rows.datasetFartherSpec.post enc Tryd.prog Tryd.f9 false true false false) := by
  refine law_lifted (C := Tryd.checked) (fun w => laidMetH Tryd.prog laidL w) (fun _ _ hh h => h.of_heap hh) laidOut own started (by kernel_rfl) Tryd.func9 rfl (fun ds hl => ?_) rfl Tryd.underlying4 (by kernel_rfl)
    (ChangeSpec.witness_shaped (enc := enc) (C := Tryd.checked) (os := os) (X := fun w _ => laidMetH Tryd.prog laidL w) false (World.doorLaid Tryd.prog 400 os) #[.agg #[.int .i64 0, .int .i64 0, .int .i64 0, .int .i64 0, .int .i64 0, .int .u64 0, .int .i64 0, .int .u64 0, .int .i64 0, .int .u64 0, .int .i64 0], .int .u8 0, .slice none 0 0] 8 rfl (World.shaped_of_RefB (by kernel_rfl) (by kernel_rfl)) (by kernel_rfl) (by kernel_rfl) (by kernel_rfl) (door_met os _)) ?_
  · match ds, hl with
    | [_, _, _], _ => rfl
  · exact pays_phs datasetFarther_shs fun ns ss hns hl W hss hX => far_pays ns ss hns hl W hss (tabs_of_laid hX)

theorem datasetFarther_holds : Rows.DatasetFartherSaid :=
  OpenClaim.holds_of_wide 9 Tryd.f9 rfl rfl rfl rfl rfl rfl rfl ⟨rfl, rfl, rfl, rfl, rfl⟩ rfl rfl rfl rfl rfl (by kernel_rfl) Tryd.func9 (by kernel_rfl)
    (of_decide_eq_true (by kernel_rfl)) (by unfold Func.isWrapper; rw [if_neg (of_decide_eq_false (by kernel_rfl))]; exact ⟨rfl, rfl⟩)
    (fun os started H enc _ => datasetFarther_lifted os started H enc)

theorem datasetFarther_card : Rows.DatasetFartherCardSaid :=
  Claim7.holds_tied_plain_at .later [] [.data] true (true, "e8430dbd48526b851d3ffdb658a524ae1529676bd1347232885a674646183f3e") false
    datasetFarther_holds (fun _ h => by cases h) (by kernel_rfl) (fun _ h => by cases h) datasetFarther_row_tie rfl ⟨rfl, rfl⟩ (by kernel_rfl) rfl
    (fun f fn hf hfn => by
      obtain rfl : f = 9 := Option.some.inj ((show Tryd.prog.funcNamed "timesync/timesynclaw34.DatasetFarther" = some 9 by kernel_rfl).symm.trans hf) |>.symm
      obtain rfl : fn = Tryd.f9 := (Option.some.inj (Tryd.func9.symm.trans hfn)).symm
      exact ⟨by kernel_rfl, fun j t ht => by
        have hm : t ∈ Tryd.f9.params.toList := by simpa using Array.mem_of_getElem? ht
        have hall : (Tryd.f9.params.toList.all fun u => !Tryd.prog.wantsStandIn u) = true := by kernel_rfl
        exact (show Tryd.prog.wantsStandIn t = false by simpa using List.all_eq_true.1 hall t hm)⟩)
    (by kernel_rfl)

end Go.Proofs.YtljcmjcfebpkoaaDoor
