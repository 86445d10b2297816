/- The law PtpmsgChecks of layer 33. -/
import Derived.Test.YtocllfanlijmlaaPm
namespace Go.Proofs.Ytocllfanlijmlaa
open Go Go.RowKit SX
set_option linter.unusedVariables false
def chkSh : List Sh := [ptSh, i1]
set_option maxRecDepth 1000000 in
theorem chk_tree : ((callF Try.prog (tabGl [] 0) okF sums33 noKeep 80 30 3 (varShs chkSh 0) (tabHp []) []).all isTrue) = true := by kernel_rfl
set_option maxRecDepth 1000000 in
theorem chk_pays (ns : List Int) (hf : shFits chkSh ns) (w : World) : Calls Try.prog 3 (shVals chkSh ns).toArray w fun e w' => e = .returned (.bool true) ∧ Below w.heap.size w w' := by
  obtain ⟨e1, e2, e3⟩ := varShs_spec (F := names33) (β := β0) (n := 0) (hs := chkSh) (i := 0) hf
  have := pays_tab [] (by decide) (tabs_nil w) mixed okF_ok (sums33_ok ns w) e2 e3 (T.all_holds chk_tree)
  rwa [e1, List.drop_zero] at this
end Go.Proofs.Ytocllfanlijmlaa
