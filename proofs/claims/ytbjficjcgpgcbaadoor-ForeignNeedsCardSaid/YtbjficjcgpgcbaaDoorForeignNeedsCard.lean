/- For every input the law ForeignNeeds of layer 35 returns true; the variables that it reads are tied to the program's text. No condition. -/
import Derived.Test.YtbjficjcgpgcbaaDoorForeignNeedsR0
import Derived.Test.YtbjficjcgpgcbaaDoorForeignNeedsR1
import Derived.Test.YtbjficjcgpgcbaaDoorForeignNeedsR2
import Derived.Test.YtbjficjcgpgcbaaDoorForeignNeedsR3
import Derived.Test.YtbjficjcgpgcbaaDoorForeignNeedsR4
import Derived.Test.YtbjficjcgpgcbaaDoorForeignNeedsR5
import Derived.Test.YtbjficjcgpgcbaaDoorForeignNeedsR6
import Derived.Test.YtbjficjcgpgcbaaDoorForeignNeedsR7
import Derived.Test.YtbjficjcgpgcbaaDoorForeignNeedsR8
namespace Go.Proofs.YtbjficjcgpgcbaaDoor
open Go Go.RowKit SX Frm Frn
set_option linter.unusedVariables false
set_option linter.unusedSimpArgs false

theorem nee_all (g : Nat → Value) : ∀ h, h < 41 → neeB h 1 g = true
  | 0, _ => nee_r0 g
  | 1, _ => nee_r1 g
  | 2, _ => nee_r2 g
  | 3, _ => nee_r3 g
  | 4, _ => nee_r4 g
  | 5, _ => nee_r5 g
  | 6, _ => nee_r6 g
  | 7, _ => nee_r7 g
  | 8, _ => nee_r8 g
  | 9, _ => nee_r9 g
  | 10, _ => nee_r10 g
  | 11, _ => nee_r11 g
  | 12, _ => nee_r12 g
  | 13, _ => nee_r13 g
  | 14, _ => nee_r14 g
  | 15, _ => nee_r15 g
  | 16, _ => nee_r16 g
  | 17, _ => nee_r17 g
  | 18, _ => nee_r18 g
  | 19, _ => nee_r19 g
  | 20, _ => nee_r20 g
  | 21, _ => nee_r21 g
  | 22, _ => nee_r22 g
  | 23, _ => nee_r23 g
  | 24, _ => nee_r24 g
  | 25, _ => nee_r25 g
  | 26, _ => nee_r26 g
  | 27, _ => nee_r27 g
  | 28, _ => nee_r28 g
  | 29, _ => nee_r29 g
  | 30, _ => nee_r30 g
  | 31, _ => nee_r31 g
  | 32, _ => nee_r32 g
  | 33, _ => nee_r33 g
  | 34, _ => nee_r34 g
  | 35, _ => nee_r35 g
  | 36, _ => nee_r36 g
  | 37, _ => nee_r37 g
  | 38, _ => nee_r38 g
  | 39, _ => nee_r39 g
  | 40, _ => nee_r40 g
  | n + 41, h => absurd h (by omega)
theorem nee_one {h : Nat} {g : Nat → Value} (hb : neeB h 1 g = true) : neeOk neeC (neeT h) g = true ∧ (h ≠ 0 → ∀ q, q < min h 8 + 1 → neeOk neeC2 (neeT2 h q) g = true) := by
  have := List.all_eq_true.1 hb h (by simp [List.mem_range'_1])
  rw [Bool.and_eq_true, Bool.or_eq_true] at this
  refine ⟨this.1, fun hne q hq => ?_⟩
  rcases this.2 with h2 | h2
  · exact absurd (of_decide_eq_true h2) hne
  · exact List.all_eq_true.1 h2 q (List.mem_range.2 hq)
section
variable {A : Nat → Nat → Int → Int} {b off cap m : Nat} {ns : List Int} {w : World}
theorem nee_case (ht : TabsIn tabs35 w) (hA : ArrIn w (phKs neeSh) b off m cap A) (hns : phFits neeSh ns) (hl : ns.length = phSize neeSh) :
    Calls Tryd.prog 7 (phVals neeSh ns [.slice (some ⟨b, off, none⟩) m cap]).toArray w fun e w' => e = .returned (.bool true) ∧ Below w.heap.size w w' :=
  pays_arr_cutN (rs0 := neeR0) (cuts := neeCs) (p := []) (ax := neeAx) (call := callM) (keep := noKeep 7) (fuel := 80) (C := neeCode) (fn := Tryd.f7) tabs35 tabs35_nd ht mixed FN Tryd.func7 nee_body rfl hA hns hl
    (fun _ h => by cases h) (len_ax ht hA hns hl rfl) rfl
    (fun ρ' hρ => callM_ok hρ.1 ht)
    (fun ρ' hρ c hc t htm r hr => nee_rules hρ.1 hc htm r hr)
    (fun c hc t htm => by
      simp only [neeCs, List.mem_cons, List.not_mem_nil, or_false] at hc
      rcases hc with rfl | rfl
      · obtain ⟨h, hh, rfl⟩ := List.mem_map.1 (show t ∈ (List.range 41).map neeT from htm)
        exact ⟨.leaf, fun g => CT.mk0 (nee_one (nee_all g h (List.mem_range.1 hh))).1⟩
      · obtain ⟨h, hh, htm⟩ := List.mem_flatMap.1 (show t ∈ (List.range' 1 40).flatMap fun h => (List.range (min h 8 + 1)).map (neeT2 h) from htm)
        obtain ⟨q, hq, rfl⟩ := List.mem_map.1 htm
        have hh := List.mem_range'_1.1 hh
        exact ⟨.leaf, fun g => CT.mk0 ((nee_one (nee_all g h (by omega))).2 (by omega) q (List.mem_range.1 hq))⟩)
    (fun r hr => by
      obtain rfl : r = newS0 := List.mem_singleton.1 hr
      exact newS0_ok rfl) nee_enter
end
set_option maxRecDepth 1000000 in
theorem nee_treeE : (callF Tryd.prog (tabGl tabs35 0) okF sums35 noKeep 80 30 7 (phArgs tabs35.length (phSize neeSh) (some (inpNo tabs35.length (phKs neeSh).length (phSize neeSh))) neeSh 0) (noHp tabs35) (phFacts neeSh 0)).all isTrueF = true := by kernel_rfl
set_option maxRecDepth 1000000 in
theorem nee_treeN : (callF Tryd.prog (tabGl tabs35 0) okF sums35 noKeep 80 30 7 (phArgs tabs35.length (phSize neeSh) (some rawNil) neeSh 0) (noHp tabs35) (phFacts neeSh 0)).all isTrueF = true := by kernel_rfl
theorem nee_pays (ns : List Int) (ss : List Value) (hf : phFits neeSh ns) (hl : ns.length = phSize neeSh) (w : World) (hss : slFits w neeSh ss) (ht : TabsIn tabs35 w) : Calls Tryd.prog 7 (phVals neeSh ns ss).toArray w fun e w' => e = .returned (.bool true) ∧ Below w.heap.size w w' :=
  pays_slice_arr (F := FN) tabs35 tabs35_nd mixed okF_ok rfl ht (fun ns A => sums35_ok _ ht) hf hl hss (fun b off len cap A hA hmax => nee_case ht hA hf hl) nee_treeE nee_treeN
end Go.Proofs.YtbjficjcgpgcbaaDoor
namespace Go.Proofs.YtbjficjcgpgcbaaDoor
open Go Go.ChangeShapes Go.WideShapes Go.ChangeAt Go.RowKit SX
set_option linter.unusedVariables false

theorem foreignNeeds_shs : phsOf Tryd.prog Tryd.f7.params.toList = some neeSh := by kernel_rfl
set_option maxRecDepth 100000 in
theorem foreignNeeds_lifted (os : Os) (started : os.Started) (H : Type) (enc : TypeId × Value → H) :
    ReturnsInHanded {} Tryd.checked os 7 .any (fun w args => (Rows.foreignNeedsSpec.pre enc Tryd.prog Tryd.f7 [] false w args ∧ laidMetH Tryd.prog laidL w) ∧ sizedMet enc Tryd.prog Tryd.f7 (OpenSpec.ofChange Rows.foreignNeedsSpec) false w args)
      (Rows.foreignNeedsSpec.post enc Tryd.prog Tryd.f7 false true false false) := by
  refine law_lifted (C := Tryd.checked) (fun w => laidMetH Tryd.prog laidL w) (fun _ _ hh h => h.of_heap hh) laidOut own started (by kernel_rfl) Tryd.func7 rfl (fun ds hl => ?_) rfl Tryd.underlying4 (by kernel_rfl)
    (ChangeSpec.witness_shaped (enc := enc) (C := Tryd.checked) (os := os) (X := fun w _ => laidMetH Tryd.prog laidL w) false (World.doorLaid Tryd.prog 400 os) #[.agg #[.int .i64 0, .int .i64 0], .slice none 0 0, .int .i64 0] 8 rfl (World.shaped_of_RefB (by kernel_rfl) (by kernel_rfl)) (by kernel_rfl) (by kernel_rfl) (by kernel_rfl) (door_met os _)) ?_
  · match ds, hl with
    | [_, _, _], _ => rfl
  · exact pays_phs foreignNeeds_shs fun ns ss hns hl W hss hX => nee_pays ns ss hns hl W hss (tabs_of_laid hX)

theorem foreignNeeds_holds : Rows.ForeignNeedsSaid :=
  OpenClaim.holds_of_wide 7 Tryd.f7 rfl rfl rfl rfl rfl rfl rfl ⟨rfl, rfl, rfl, rfl, rfl⟩ rfl rfl rfl rfl rfl (by kernel_rfl) Tryd.func7 (by kernel_rfl)
    (of_decide_eq_true (by kernel_rfl)) (by unfold Func.isWrapper; rw [if_neg (of_decide_eq_false (by kernel_rfl))]; exact ⟨rfl, rfl⟩)
    (fun os started H enc _ => foreignNeeds_lifted os started H enc)

theorem foreignNeeds_card : Rows.ForeignNeedsCardSaid :=
  Claim7.holds_tied_plain_at .later [] [.data] true (true, "d111174b227ef76c12d0a16b266fd7778befad29536b3a7a9a477d1b43f3c5ac") false
    foreignNeeds_holds (fun _ h => by cases h) (by kernel_rfl) (fun _ h => by cases h) foreignNeeds_row_tie rfl ⟨rfl, rfl⟩ (by kernel_rfl) rfl
    (fun f fn hf hfn => by
      obtain rfl : f = 7 := Option.some.inj ((show Tryd.prog.funcNamed "timesync/timesynclaw35.ForeignNeeds" = some 7 by kernel_rfl).symm.trans hf) |>.symm
      obtain rfl : fn = Tryd.f7 := (Option.some.inj (Tryd.func7.symm.trans hfn)).symm
      exact ⟨by kernel_rfl, fun j t ht => by
        have hm : t ∈ Tryd.f7.params.toList := by simpa using Array.mem_of_getElem? ht
        have hall : (Tryd.f7.params.toList.all fun u => !Tryd.prog.wantsStandIn u) = true := by kernel_rfl
        exact (show Tryd.prog.wantsStandIn t = false by simpa using List.all_eq_true.1 hall t hm)⟩)
    (by kernel_rfl)

end Go.Proofs.YtbjficjcgpgcbaaDoor
