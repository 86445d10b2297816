/- The law PtpmsgEncodes of layer 33: all its ways end with true, value by value of variable 0. -/
import Derived.Test.YtocllfanlijmlaaPtpmsgEncodesT0
import Derived.Test.YtocllfanlijmlaaPtpmsgEncodesT1
import Derived.Test.YtocllfanlijmlaaPtpmsgEncodesT2
import Derived.Test.YtocllfanlijmlaaPtpmsgEncodesT3
import Derived.Test.YtocllfanlijmlaaPtpmsgEncodesT4
namespace Go.Proofs.Ytocllfanlijmlaa
open Go Go.RowKit SX
set_option linter.unusedVariables false

set_option maxRecDepth 1000000 in
theorem enc_pays (ns : List Int) (hf : shFits encSh ns) (w : World) : Calls Try.prog 4 (shVals encSh ns).toArray w fun e w' => e = .returned (.bool true) ∧ Below w.heap.size w w' := by
  obtain ⟨e1, e2, e3⟩ := varShs_spec (F := names33) (β := β0) (n := 0) (hs := encSh) (i := 0) hf
  rw [List.drop_zero] at e1
  rw [← e1]
  by_cases h0 : ns.getD 0 0 = 0
  · exact pays_facts [] (by decide) (tabs_nil w) mixed okF_ok (encIs_ok ns 0 true (iff_of_true h0 rfl)) (sums33_ok ns w) e2 e3 (T.all_holds enc_tree0)
  by_cases h1 : ns.getD 0 0 = 1
  · exact pays_facts [] (by decide) (tabs_nil w) mixed okF_ok (encIs_ok ns 1 true (iff_of_true h1 rfl)) (sums33_ok ns w) e2 e3 (T.all_holds enc_tree1)
  by_cases h2 : ns.getD 0 0 = 2
  · exact pays_facts [] (by decide) (tabs_nil w) mixed okF_ok (encIs_ok ns 2 true (iff_of_true h2 rfl)) (sums33_ok ns w) e2 e3 (T.all_holds enc_tree2)
  by_cases h3 : ns.getD 0 0 = 3
  · exact pays_facts [] (by decide) (tabs_nil w) mixed okF_ok (encIs_ok ns 3 true (iff_of_true h3 rfl)) (sums33_ok ns w) e2 e3 (T.all_holds enc_tree3)
  by_cases h4 : ns.getD 0 0 = 8
  · exact pays_facts [] (by decide) (tabs_nil w) mixed okF_ok (encIs_ok ns 8 true (iff_of_true h4 rfl)) (sums33_ok ns w) e2 e3 (T.all_holds enc_tree4)
  by_cases h5 : ns.getD 0 0 = 9
  · exact pays_facts [] (by decide) (tabs_nil w) mixed okF_ok (encIs_ok ns 9 true (iff_of_true h5 rfl)) (sums33_ok ns w) e2 e3 (T.all_holds enc_tree5)
  by_cases h6 : ns.getD 0 0 = 10
  · exact pays_facts [] (by decide) (tabs_nil w) mixed okF_ok (encIs_ok ns 10 true (iff_of_true h6 rfl)) (sums33_ok ns w) e2 e3 (T.all_holds enc_tree6)
  by_cases h7 : ns.getD 0 0 = 11
  · exact pays_facts [] (by decide) (tabs_nil w) mixed okF_ok (encIs_ok ns 11 true (iff_of_true h7 rfl)) (sums33_ok ns w) e2 e3 (T.all_holds enc_tree7)
  exact pays_facts [] (by decide) (tabs_nil w) mixed okF_ok (fsOk_app (fsOk_app (fsOk_app (fsOk_app (fsOk_app (fsOk_app (fsOk_app (encIs_ok ns 0 false (iff_of_false h0 Bool.false_ne_true)) (encIs_ok ns 1 false (iff_of_false h1 Bool.false_ne_true))) (encIs_ok ns 2 false (iff_of_false h2 Bool.false_ne_true))) (encIs_ok ns 3 false (iff_of_false h3 Bool.false_ne_true))) (encIs_ok ns 8 false (iff_of_false h4 Bool.false_ne_true))) (encIs_ok ns 9 false (iff_of_false h5 Bool.false_ne_true))) (encIs_ok ns 10 false (iff_of_false h6 Bool.false_ne_true))) (encIs_ok ns 11 false (iff_of_false h7 Bool.false_ne_true))) (sums33_ok ns w) e2 e3 (T.all_holds enc_treeN)
end Go.Proofs.Ytocllfanlijmlaa
