/- The law DecideMasters of layer 36: all its ways end with true. -/
import Derived.Test.YthbfjnmdjehljaaDoorDcE
namespace Go.Proofs.YthbfjnmdjehljaaDoor
open Go Go.RowKit SX
set_option linter.unusedVariables false
def mstSh : List Ph := [.sh dsSh, .sl portLk, .sh i1]
set_option maxRecDepth 1000000 in
theorem mst_tree1 : (lawT 4 mstSh (isLen (phSize mstSh) 1)).all isTrueF = true := by kernel_rfl
set_option maxRecDepth 1000000 in
theorem mst_tree2 : (lawT 4 mstSh (isLen (phSize mstSh) 2)).all isTrueF = true := by kernel_rfl
set_option maxRecDepth 1000000 in
theorem mst_tree3 : (lawT 4 mstSh (isLen (phSize mstSh) 3)).all isTrueF = true := by kernel_rfl
set_option maxRecDepth 1000000 in
theorem mst_tree4 : (lawT 4 mstSh (isLen (phSize mstSh) 4)).all isTrueF = true := by kernel_rfl
set_option maxRecDepth 1000000 in
theorem mst_tree5 : (lawT 4 mstSh (isLen (phSize mstSh) 5)).all isTrueF = true := by kernel_rfl
set_option maxRecDepth 1000000 in
theorem mst_tree6 : (lawT 4 mstSh (isLen (phSize mstSh) 6)).all isTrueF = true := by kernel_rfl
set_option maxRecDepth 1000000 in
theorem mst_tree7 : (lawT 4 mstSh (isLen (phSize mstSh) 7)).all isTrueF = true := by kernel_rfl
set_option maxRecDepth 1000000 in
theorem mst_tree8 : (lawT 4 mstSh (isLen (phSize mstSh) 8)).all isTrueF = true := by kernel_rfl
set_option maxRecDepth 1000000 in
theorem mst_treeG : (lawT 4 mstSh [(lt0 (.lit 8) (.var (phSize mstSh)), true)]).all isTrueF = true := by kernel_rfl
set_option maxRecDepth 1000000 in
theorem mst_treeE : (lawE 4 mstSh).all isTrueF = true := by kernel_rfl
set_option maxRecDepth 1000000 in
theorem mst_treeN : (lawN 4 mstSh).all isTrueF = true := by kernel_rfl
theorem mst_pays (ns : List Int) (ss : List Value) (hf : phFits mstSh ns) (hl : ns.length = phSize mstSh) (w : World) (hss : slFits w mstSh ss) (ht : TabsIn tabs36 w) : Calls Tryd.prog 4 (phVals mstSh ns ss).toArray w fun e w' => e = .returned (.bool true) ∧ Below w.heap.size w w' :=
  law_by_trees rfl rfl (by decide) ht hf hl hss (one_to_8 mst_tree1 mst_tree2 mst_tree3 mst_tree4 mst_tree5 mst_tree6 mst_tree7 mst_tree8) mst_treeG mst_treeE mst_treeN
end Go.Proofs.YthbfjnmdjehljaaDoor
