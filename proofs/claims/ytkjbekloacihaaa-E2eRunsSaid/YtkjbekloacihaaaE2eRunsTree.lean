/- The law E2eRuns of layer 38: all its ways end with true. -/
import Derived.Test.YtkjbekloacihaaaE2eRunsR0
import Derived.Test.YtkjbekloacihaaaE2eRunsR1
import Derived.Test.YtkjbekloacihaaaE2eRunsR2
import Derived.Test.YtkjbekloacihaaaE2eRunsR3
import Derived.Test.YtkjbekloacihaaaE2eRunsR4
import Derived.Test.YtkjbekloacihaaaE2eRunsR5
import Derived.Test.YtkjbekloacihaaaE2eRunsR6
import Derived.Test.YtkjbekloacihaaaE2eRunsR7
import Derived.Test.YtkjbekloacihaaaSxS
namespace Go.Proofs.Ytkjbekloacihaaa
open Go Go.RowKit SX
set_option linter.unusedVariables false
set_option maxRecDepth 1000000 in
theorem run_treeE : ((callF Try.prog (tabGl [] 0) okF sumsE noKeep 80 30 3 (phArgs (([] : Tabs).length) (phSize runSh) (some (inpNo (([] : Tabs).length) (phKs runSh).length (phSize runSh))) runSh 0) (noHp []) (phFacts runSh 0)).all isTrueF) = true := by kernel_rfl
set_option maxRecDepth 1000000 in
theorem run_treeN : ((callF Try.prog (tabGl [] 0) okF sumsE noKeep 80 30 3 (phArgs (([] : Tabs).length) (phSize runSh) (some rawNil) runSh 0) (noHp []) (phFacts runSh 0)).all isTrueF) = true := by kernel_rfl
noncomputable def runEnter (p : Fs) : Bool := noWay (p ++ (lenFacts (phSize runSh) ++ phFacts runSh 0)) || (execP Try.prog (tabGl [] 0) runCall (noKeep 3) 80 runC (entrySt Try.f3 (phArgs (([] : Tabs).length) (phSize runSh) none runSh 0) (arrHp [] (phKs runSh) (phSize runSh)) (p ++ (lenFacts (phSize runSh) ++ phFacts runSh 0)))).all (leafOk (tabGl [] 0) [runCut] (lawEnd Try.prog Try.f3) 2)
set_option maxRecDepth 1000000 in
theorem run_enter0 : runEnter [] = true := by kernel_rfl
def runCt : CT := .leaf
theorem run_enter : runCt.all fun p => runEnter p = true := (CT.mk0 run_enter0)
theorem run_rounds : ∀ c ∈ [runCut], ∀ τ ∈ c.ts, ∃ ct : CT, ∀ g, ct.all fun p => roundOk Try.prog (tabGl [] 0) runCall (noKeep 3) 80 [runCut] (lawEnd Try.prog Try.f3) runC p c τ g = true := fun c hc τ hτ => by
  obtain rfl : c = runCut := by simpa using hc
  have hτ' : τ ∈ [runT0, runT1] := hτ
  simp only [List.mem_cons, List.not_mem_nil, or_false] at hτ'
  rcases hτ' with rfl | rfl
  · exact ⟨(.split (E.bin .eq .i64 (.rd 0 3 runIx) (.lit 0)) .leaf (.split (E.bin .eq .i64 (.rd 0 3 runIx) (.lit 1)) .leaf (.split (E.bin .eq .i64 (.rd 0 3 runIx) (.lit 2)) .leaf .leaf))), fun g => (CT.mk2 (CT.mk0 (run_round0 g)) (CT.mk2 (CT.mk0 (run_round1 g)) (CT.mk2 (CT.mk0 (run_round2 g)) (CT.mk0 (run_round3 g)))))⟩
  · exact ⟨(.split (E.bin .eq .i64 (.rd 0 3 runIx) (.lit 0)) .leaf (.split (E.bin .eq .i64 (.rd 0 3 runIx) (.lit 1)) .leaf (.split (E.bin .eq .i64 (.rd 0 3 runIx) (.lit 2)) .leaf .leaf))), fun g => (CT.mk2 (CT.mk0 (run_round4 g)) (CT.mk2 (CT.mk0 (run_round5 g)) (CT.mk2 (CT.mk0 (run_round6 g)) (CT.mk0 (run_round7 g)))))⟩
set_option maxRecDepth 1000000 in
theorem run_body : Try.f3.body = some runC := by kernel_rfl
theorem run_pays (ns : List Int) (ss : List Value) (hf : phFits runSh ns) (hl : ns.length = phSize runSh) (w : World) (hss : slFits w runSh ss) : Calls Try.prog 3 (phVals runSh ns ss).toArray w fun e w' => e = .returned (.bool true) ∧ Below w.heap.size w w' :=
  pays_slice_by (F := namesN) (okF := okF) (sums := sumsE) (keep := noKeep) (fuel := 80) (n := 30) [] (by decide) mixed okF_ok rfl (tabs_nil w) (fun ns A => sumsE_ok _ rfl w)
    (fun ns A β hh hg hfs hargs => by
      obtain ⟨p, hp, he⟩ := CT.some (envA namesN ns A) run_enter
      unfold runEnter at he
      rw [Bool.or_eq_true] at he
      rcases he with he | he
      · exact (noWay_spec (fsOk_app hp hfs) he).elim
      · exact pays_loops (fuel := 80) (n := 30) (cuts := [runCut]) (rk := 2) (keep := noKeep) (C := runC) (fn := Try.f3) (call := runCall) rfl mixed okF_ok Try.func3 run_body hh hg (fsOk_app hp hfs) (fun ρ' hρ => sumsE_ok _ hρ.1 w) hargs run_rounds he)
    run_treeE run_treeN ns ss hf hl hss
end Go.Proofs.Ytkjbekloacihaaa
