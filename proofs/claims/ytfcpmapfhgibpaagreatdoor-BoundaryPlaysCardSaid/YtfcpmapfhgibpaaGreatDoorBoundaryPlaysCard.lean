/- For every input the law BoundaryPlays of layer 41 returns true; the variables that it reads are tied to the program's text. No condition. -/
import Derived.Test.YtfcpmapfhgibpaaGreatDoorBoundaryPlaysH
namespace Go.Proofs.YtfcpmapfhgibpaaGreatDoor
open Go Go.ChangeShapes Go.WideShapes Go.ChangeAt Go.RowKit SX
set_option linter.unusedVariables false

theorem boundaryPlays_shs : phsOf Tryz.prog Tryz.f3.params.toList = some plySh := by kernel_rfl
set_option maxRecDepth 100000 in
theorem boundaryPlays_lifted (os : Os) (started : os.Started) (H : Type) (enc : TypeId × Value → H) :
    ReturnsInHanded {} Tryz.checked os 3 .any (fun w args => (Rows.boundaryPlaysSpec.pre enc Tryz.prog Tryz.f3 [] false w args ∧ laidMetH Tryz.prog laidL w) ∧ sizedMet enc Tryz.prog Tryz.f3 (OpenSpec.ofChange Rows.boundaryPlaysSpec) false w args)
      (Rows.boundaryPlaysSpec.post enc Tryz.prog Tryz.f3 false true false false) := by
  refine law_lifted (C := Tryz.checked) (fun w => laidMetH Tryz.prog laidL w) (fun _ _ hh h => h.of_heap hh) laidOut own started (by kernel_rfl) Tryz.func3 rfl (fun ds hl => ?_) rfl Tryz.underlying4 (by kernel_rfl)
    (ChangeSpec.witness_shaped (enc := enc) (C := Tryz.checked) (os := os) (X := fun w _ => laidMetH Tryz.prog laidL w) false (World.doorLaid Tryz.prog 400 os) #[.agg #[.int .u64 0, .int .i64 0, .int .i64 0, .int .i64 0, .int .i64 0, .int .i64 0, .int .i64 0, .int .i64 0, .int .i64 0, .int .i64 0, .int .i64 0], .slice none 0 0] 8 rfl (World.shaped_of_RefB (by kernel_rfl) (by kernel_rfl)) (by kernel_rfl) (by kernel_rfl) (by kernel_rfl) (door_met os _)) ?_
  · match ds, hl with
    | [_, _], _ => rfl
  · exact pays_phs boundaryPlays_shs fun ns ss hns hl W hss hX => ply_pays ns ss hns hl W hss (tabs_of_laid hX)

theorem boundaryPlays_holds : Rows.BoundaryPlaysSaid :=
  OpenClaim.holds_of_wide 3 Tryz.f3 rfl rfl rfl rfl rfl rfl rfl ⟨rfl, rfl, rfl, rfl, rfl⟩ rfl rfl rfl rfl rfl (by kernel_rfl) Tryz.func3 (by kernel_rfl)
    (of_decide_eq_true (by kernel_rfl)) (by unfold Func.isWrapper; rw [if_neg (of_decide_eq_false (by kernel_rfl))]; exact ⟨rfl, rfl⟩)
    (fun os started H enc _ => boundaryPlays_lifted os started H enc)

theorem boundaryPlays_card : Rows.BoundaryPlaysCardSaid :=
  Claim7.holds_tied_plain_at .later [] [.data, .data] true (true, "aa9757566f337b007d6c7cad91aac73f575c36c7d3424f34e7f469b91106db54") false
    boundaryPlays_holds (fun _ h => by cases h) (by kernel_rfl) (fun _ h => by cases h) boundaryPlays_row_tie rfl ⟨rfl, rfl⟩ (by kernel_rfl) rfl
    (fun f fn hf hfn => by
      obtain rfl : f = 3 := Option.some.inj ((show Tryz.prog.funcNamed "timesync/timesynclaw41.BoundaryPlays" = some 3 by kernel_rfl).symm.trans hf) |>.symm
      obtain rfl : fn = Tryz.f3 := (Option.some.inj (Tryz.func3.symm.trans hfn)).symm
      exact ⟨by kernel_rfl, fun j t ht => by
        have hm : t ∈ Tryz.f3.params.toList := by simpa using Array.mem_of_getElem? ht
        have hall : (Tryz.f3.params.toList.all fun u => !Tryz.prog.wantsStandIn u) = true := by kernel_rfl
        exact (show Tryz.prog.wantsStandIn t = false by simpa using List.all_eq_true.1 hall t hm)⟩)
    (by kernel_rfl)

end Go.Proofs.YtfcpmapfhgibpaaGreatDoor
