/- The law E2eAsymmetry of layer 38: all its ways end with true. -/
import Derived.Test.YtkjbekloacihaaaE2
namespace Go.Proofs.Ytkjbekloacihaaa
open Go Go.RowKit SX
set_option linter.unusedVariables false
def asySh : List Sh := [.agg [.int .i64, .int .i64, .int .i64, .int .i64, .int .i64, .int .i64, .int .i64], .one .bool]
set_option maxRecDepth 1000000 in
theorem asy_tree : ((callF Try.prog (tabGl [] 0) okF sums38 noKeep 80 30 5 (varShs asySh 0) (tabHp []) (varFacts asySh 0)).all isTrueF) = true := by kernel_rfl
set_option maxRecDepth 1000000 in
theorem asy_pays (ns : List Int) (hf : shFits asySh ns) (w : World) : Calls Try.prog 5 (shVals asySh ns).toArray w fun e w' => e = .returned (.bool true) ∧ Below w.heap.size w w' := by
  obtain ⟨e1, e2, e3⟩ := varShs_spec (F := names38) (β := β0) (n := 0) (hs := asySh) (i := 0) hf
  have := pays_facts [] (by decide) (tabs_nil w) mixed okF_ok (varFacts_ok (hs := asySh) (i := 0) hf) (sums38_ok ns w) e2 e3 (T.all_holds asy_tree)
  rwa [e1, List.drop_zero] at this
end Go.Proofs.Ytkjbekloacihaaa
