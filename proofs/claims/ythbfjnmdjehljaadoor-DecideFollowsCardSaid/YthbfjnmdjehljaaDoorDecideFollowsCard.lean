/- For every input the law DecideFollows of layer 36 returns true; the variables that it reads are tied to the program's text. No condition. -/
import Derived.Test.YthbfjnmdjehljaaDoorDecideFollowsTree
namespace Go.Proofs.YthbfjnmdjehljaaDoor
open Go Go.ChangeShapes Go.WideShapes Go.ChangeAt Go.RowKit SX
set_option linter.unusedVariables false

theorem decideFollows_shs : phsOf Tryd.prog Tryd.f7.params.toList = some decSh := by kernel_rfl
set_option maxRecDepth 100000 in
theorem decideFollows_lifted (os : Os) (started : os.Started) (H : Type) (enc : TypeId × Value → H) :
    ReturnsInHanded {} Tryd.checked os 7 .any (fun w args => (Rows.decideFollowsSpec.pre enc Tryd.prog Tryd.f7 [] false w args ∧ laidMetH Tryd.prog laidL w) ∧ sizedMet enc Tryd.prog Tryd.f7 (OpenSpec.ofChange Rows.decideFollowsSpec) false w args)
      (Rows.decideFollowsSpec.post enc Tryd.prog Tryd.f7 false true false false) := by
  refine law_lifted (C := Tryd.checked) (fun w => laidMetH Tryd.prog laidL w) (fun _ _ hh h => h.of_heap hh) laidOut own started (by kernel_rfl) Tryd.func7 rfl (fun ds hl => ?_) rfl Tryd.underlying4 (by kernel_rfl)
    (ChangeSpec.witness_shaped (enc := enc) (C := Tryd.checked) (os := os) (X := fun w _ => laidMetH Tryd.prog laidL w) false (World.doorLaid Tryd.prog 400 os) #[.agg #[.int .i64 0, .int .i64 0, .int .i64 0, .int .i64 0, .int .i64 0, .int .u64 0, .int .i64 0, .int .u64 0, .int .i64 0, .int .u64 0, .int .i64 0], .slice none 0 0] 8 rfl (World.shaped_of_RefB (by kernel_rfl) (by kernel_rfl)) (by kernel_rfl) (by kernel_rfl) (by kernel_rfl) (door_met os _)) ?_
  · match ds, hl with
    | [_, _], _ => rfl
  · exact pays_phs decideFollows_shs fun ns ss hns hl W hss hX => fol_pays ns ss hns hl W hss (tabs_of_laid hX)

theorem decideFollows_holds : Rows.DecideFollowsSaid :=
  OpenClaim.holds_of_wide 7 Tryd.f7 rfl rfl rfl rfl rfl rfl rfl ⟨rfl, rfl, rfl, rfl, rfl⟩ rfl rfl rfl rfl rfl (by kernel_rfl) Tryd.func7 (by kernel_rfl)
    (of_decide_eq_true (by kernel_rfl)) (by unfold Func.isWrapper; rw [if_neg (of_decide_eq_false (by kernel_rfl))]; exact ⟨rfl, rfl⟩)
    (fun os started H enc _ => decideFollows_lifted os started H enc)

theorem decideFollows_card : Rows.DecideFollowsCardSaid :=
  Claim7.holds_tied_plain_at .later [] [.data] true (true, "1828dc98bb33701228362b0d7a5bc5eaa912f216b4fe9f19060fd8c93c82374d") false
    decideFollows_holds (fun _ h => by cases h) (by kernel_rfl) (fun _ h => by cases h) decideFollows_row_tie rfl ⟨rfl, rfl⟩ (by kernel_rfl) rfl
    (fun f fn hf hfn => by
      obtain rfl : f = 7 := Option.some.inj ((show Tryd.prog.funcNamed "timesync/timesynclaw36.DecideFollows" = some 7 by kernel_rfl).symm.trans hf) |>.symm
      obtain rfl : fn = Tryd.f7 := (Option.some.inj (Tryd.func7.symm.trans hfn)).symm
      exact ⟨by kernel_rfl, fun j t ht => by
        have hm : t ∈ Tryd.f7.params.toList := by simpa using Array.mem_of_getElem? ht
        have hall : (Tryd.f7.params.toList.all fun u => !Tryd.prog.wantsStandIn u) = true := by kernel_rfl
        exact (show Tryd.prog.wantsStandIn t = false by simpa using List.all_eq_true.1 hall t hm)⟩)
    (by kernel_rfl)

end Go.Proofs.YthbfjnmdjehljaaDoor
