/- For every input the law ForeignRefuses of layer 35 returns true; the variables that it reads are tied to the program's text. No condition. -/
import Derived.Test.YtbjficjcgpgcbaaDoorForeignRefusesH
namespace Go.Proofs.YtbjficjcgpgcbaaDoor
open Go Go.ChangeShapes Go.WideShapes Go.ChangeAt Go.RowKit SX
set_option linter.unusedVariables false

theorem foreignRefuses_shs : phsOf Tryd.prog Tryd.f8.params.toList = some refSh := by kernel_rfl
set_option maxRecDepth 100000 in
theorem foreignRefuses_lifted (os : Os) (started : os.Started) (H : Type) (enc : TypeId × Value → H) :
    ReturnsInHanded {} Tryd.checked os 8 .any (fun w args => (Rows.foreignRefusesSpec.pre enc Tryd.prog Tryd.f8 [] false w args ∧ laidMetH Tryd.prog laidL w) ∧ sizedMet enc Tryd.prog Tryd.f8 (OpenSpec.ofChange Rows.foreignRefusesSpec) false w args)
      (Rows.foreignRefusesSpec.post enc Tryd.prog Tryd.f8 false true false false) := by
  refine law_lifted (C := Tryd.checked) (fun w => laidMetH Tryd.prog laidL w) (fun _ _ hh h => h.of_heap hh) laidOut own started (by kernel_rfl) Tryd.func8 rfl (fun ds hl => ?_) rfl Tryd.underlying4 (by kernel_rfl)
    (ChangeSpec.witness_shaped (enc := enc) (C := Tryd.checked) (os := os) (X := fun w _ => laidMetH Tryd.prog laidL w) false (World.doorLaid Tryd.prog 400 os) #[.slice none 0 0, .agg #[.int .i64 0, .int .i64 0, .int .i64 0, .int .i64 0, .int .i64 0, .int .i64 0, .int .i64 0, .int .u64 0, .int .i64 0, .int .u64 0, .int .i64 0, .int .u64 0, .int .i64 0]] 8 rfl (World.shaped_of_RefB (by kernel_rfl) (by kernel_rfl)) (by kernel_rfl) (by kernel_rfl) (by kernel_rfl) (door_met os _)) ?_
  · match ds, hl with
    | [_, _], _ => rfl
  · exact pays_phs foreignRefuses_shs fun ns ss hns hl W hss hX => ref_pays ns ss hns hl W hss (tabs_of_laid hX)

theorem foreignRefuses_holds : Rows.ForeignRefusesSaid :=
  OpenClaim.holds_of_wide 8 Tryd.f8 rfl rfl rfl rfl rfl rfl rfl ⟨rfl, rfl, rfl, rfl, rfl⟩ rfl rfl rfl rfl rfl (by kernel_rfl) Tryd.func8 (by kernel_rfl)
    (of_decide_eq_true (by kernel_rfl)) (by unfold Func.isWrapper; rw [if_neg (of_decide_eq_false (by kernel_rfl))]; exact ⟨rfl, rfl⟩)
    (fun os started H enc _ => foreignRefuses_lifted os started H enc)

theorem foreignRefuses_card : Rows.ForeignRefusesCardSaid :=
  Claim7.holds_tied_plain_at .later [] [.data] true (true, "d111174b227ef76c12d0a16b266fd7778befad29536b3a7a9a477d1b43f3c5ac") false
    foreignRefuses_holds (fun _ h => by cases h) (by kernel_rfl) (fun _ h => by cases h) foreignRefuses_row_tie rfl ⟨rfl, rfl⟩ (by kernel_rfl) rfl
    (fun f fn hf hfn => by
      obtain rfl : f = 8 := Option.some.inj ((show Tryd.prog.funcNamed "timesync/timesynclaw35.ForeignRefuses" = some 8 by kernel_rfl).symm.trans hf) |>.symm
      obtain rfl : fn = Tryd.f8 := (Option.some.inj (Tryd.func8.symm.trans hfn)).symm
      exact ⟨by kernel_rfl, fun j t ht => by
        have hm : t ∈ Tryd.f8.params.toList := by simpa using Array.mem_of_getElem? ht
        have hall : (Tryd.f8.params.toList.all fun u => !Tryd.prog.wantsStandIn u) = true := by kernel_rfl
        exact (show Tryd.prog.wantsStandIn t = false by simpa using List.all_eq_true.1 hall t hm)⟩)
    (by kernel_rfl)

end Go.Proofs.YtbjficjcgpgcbaaDoor
