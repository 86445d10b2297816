/- The law E2eRefuses of layer 38: all its ways end with true. -/
import Derived.Test.YtkjbekloacihaaaE2eRefusesR0
import Derived.Test.YtkjbekloacihaaaE2eRefusesR1
import Derived.Test.YtkjbekloacihaaaE2eRefusesR2
import Derived.Test.YtkjbekloacihaaaE2eRefusesR3
import Derived.Test.YtkjbekloacihaaaE2eRefusesR4
import Derived.Test.YtkjbekloacihaaaSxS
namespace Go.Proofs.Ytkjbekloacihaaa
open Go Go.RowKit SX
set_option linter.unusedVariables false
set_option maxRecDepth 1000000 in
theorem ref_treeE : ((callF Try.prog (tabGl [] 0) okF sumsR noKeep 80 30 7 (phArgs (([] : Tabs).length) (phSize refSh) (some (inpNo (([] : Tabs).length) (phKs refSh).length (phSize refSh))) refSh 0) (noHp []) (phFacts refSh 0)).all isTrueF) = true := by kernel_rfl
set_option maxRecDepth 1000000 in
theorem ref_treeN : ((callF Try.prog (tabGl [] 0) okF sumsR noKeep 80 30 7 (phArgs (([] : Tabs).length) (phSize refSh) (some rawNil) refSh 0) (noHp []) (phFacts refSh 0)).all isTrueF) = true := by kernel_rfl
set_option maxRecDepth 1000000 in
theorem ref_enter : ((execP Try.prog (tabGl [] 0) refCall (noKeep 7) 80 refC (entrySt Try.f7 (phArgs (([] : Tabs).length) (phSize refSh) none refSh 0) (arrHp [] (phKs refSh) (phSize refSh)) (lenFacts (phSize refSh) ++ phFacts refSh 0))).all (leafOk (tabGl [] 0) [refCut] (lawEnd Try.prog Try.f7) 2)) = true := by kernel_rfl
theorem ref_rounds : ∀ c ∈ [refCut], ∀ τ ∈ c.ts, ∀ g, roundOk Try.prog (tabGl [] 0) refCall (noKeep 7) 80 [refCut] (lawEnd Try.prog Try.f7) refC c τ g = true := fun c hc τ hτ g => by
  obtain rfl : c = refCut := by simpa using hc
  have hτ' : τ ∈ [refT0, refT1, refT2, refT3, refT4] := hτ
  simp only [List.mem_cons, List.not_mem_nil, or_false] at hτ'
  rcases hτ' with rfl | rfl | rfl | rfl | rfl
  · exact ref_round0 g
  · exact ref_round1 g
  · exact ref_round2 g
  · exact ref_round3 g
  · exact ref_round4 g
set_option maxRecDepth 1000000 in
theorem ref_body : Try.f7.body = some refC := by kernel_rfl
theorem ref_pays (ns : List Int) (ss : List Value) (hf : phFits refSh ns) (hl : ns.length = phSize refSh) (w : World) (hss : slFits w refSh ss) : Calls Try.prog 7 (phVals refSh ns ss).toArray w fun e w' => e = .returned (.bool true) ∧ Below w.heap.size w w' :=
  pays_slice_by (F := namesA) (okF := okF) (sums := sumsR) (keep := noKeep) (fuel := 80) (n := 30) [] (by decide) mixed okF_ok rfl (tabs_nil w) (fun ns A => sumsR_ok _ rfl w)
    (fun ns A β hh hg hfs hargs => pays_loops (fuel := 80) (n := 30) (cuts := [refCut]) (rk := 2) (keep := noKeep) (C := refC) (fn := Try.f7) (call := refCall) rfl mixed okF_ok Try.func7 ref_body hh hg hfs (fun ρ' hρ => sumsR_ok _ hρ.1 w) hargs ref_rounds ref_enter)
    ref_treeE ref_treeN ns ss hf hl hss
end Go.Proofs.Ytkjbekloacihaaa
